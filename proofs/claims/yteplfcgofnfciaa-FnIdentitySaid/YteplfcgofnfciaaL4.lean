/-
  Plain laws: what the typed functions answer. Conditions: see each.
-/
import Derived.Test.YteplfcgofnfciaaG4
import Derived.Test.YteplfcgofnfciaaTa
set_option linter.unusedVariables false
set_option linter.unusedSimpArgs false
namespace Go.Pm.Try
open Go.Pm Go.Pm.Th
section
variable {α S R : Type} {f : S → Option (S ⊕ R)}
theorem loop_forall (mk : Int → S) (p : α → Bool) (l : List α) (bad good : R) (hstep : ∀ (i : Nat) (a : α), l[i]? = some a → f (mk i) = some (cond (p a) (.inl (mk (i + 1 : Nat))) (.inr bad))) (hfin : f (mk l.length) = some (.inr good)) :
    loopM f (mk 0) = some (cond (l.all p) good bad) := by
  have key := loop_list (f := f) (fun (_ : Unit) i => mk i) (fun _ a => cond (p a) (.inl ()) (.inr bad)) (fun _ _ => True) l l.length rfl (fun _ => good) () trivial (fun s i a ha _ => ⟨by rw [hstep i a ha]; cases p a <;> rfl, fun _ _ => trivial⟩) (fun _ _ => hfin)
  rw [key]
  congr 1
  clear key hstep hfin
  induction l with
  | nil => rfl
  | cons a l ih =>
    simp only [runL, List.all_cons]
    cases h : p a with
    | true => simpa using ih
    | false => rfl
theorem loop_forallN (mk : Int → S) (p : Nat → Bool) (n : Nat) (bad good : R) (hstep : ∀ (i : Nat), i < n → f (mk i) = some (cond (p i) (.inl (mk (i + 1 : Nat))) (.inr bad))) (hfin : f (mk n) = some (.inr good)) :
    loopM f (mk 0) = some (cond ((List.range n).all p) good bad) := by
  refine loop_forall mk p (List.range n) bad good (fun i a ha => ?_) (by simpa using hfin)
  have hi : i < n := by have := (List.getElem?_eq_some_iff.1 ha).1; simpa using this
  have : a = i := by rw [List.getElem?_range hi] at ha; cases ha; rfl
  subst this
  exact hstep a hi
/-- downwards from n to 0; at 0 it ends -/
theorem loop_downN (mk : Int → S) (p : Nat → Bool) (bad good : R) : ∀ (n : Nat), (∀ i, i < n → f (mk (i + 1 : Nat)) = some (cond (p (i + 1)) (.inl (mk i)) (.inr bad))) → f (mk 0) = some (.inr good) →
    loopM f (mk n) = some (cond ((List.range n).all (fun i => p (i + 1))) good bad)
  | 0, _, h0 => loop_out h0
  | n + 1, hs, h0 => by
    have h1 := hs n (by omega)
    have ih := loop_downN mk p bad good n (fun i hi => hs i (by omega)) h0
    rw [List.range_succ, List.all_append]
    cases h : p (n + 1) with
    | true =>
      rw [h] at h1
      rw [loop_in h1, ih]
      simp [h]
    | false =>
      rw [h] at h1
      rw [loop_out h1]
      simp [h]
end
theorem beq_ne {α : Type} [BEq α] [LawfulBEq α] (a : α) : (a != a) = false := by simp
end Go.Pm.Try

set_option linter.unusedVariables false
set_option linter.unusedSimpArgs false
namespace Go.Pm.Try
open Go.Pm Go.Pm.Th
def sortedB (es : Es) : Bool := (List.range (es.length - 1)).all fun i => !ltB (es.getD (i + 1) (0, 0)) (es.getD i (0, 0))
def edgesB (n : Int) (es : Es) : Bool := decide (1 ≤ n ∧ n ≤ 6) && decide (es.length ≤ 12) && es.all (fun e => decide (0 ≤ e.1 ∧ e.1 < e.2 ∧ e.2 < n))
open Classical in
noncomputable def connB (n : Int) (es : Es) : Bool := decide (Conn n es)
noncomputable def gokB (n : Int) (es : Es) : Bool := edgesB n es && sortedB es && connB n es
theorem edgesB_spec {n : Int} {es : Es} (h : edgesB n es = true) : (1 ≤ n ∧ n ≤ 6) ∧ es.length ≤ 12 ∧ EOk n es := by
  simp only [edgesB, Bool.and_eq_true, decide_eq_true_eq, List.all_eq_true] at h
  exact ⟨h.1.1, h.1.2, h.2⟩
theorem gokB_gr {n : Int} {es : Es} (h : gokB n es = true) : ∃ m : Nat, n = m ∧ Gr m es := by
  simp only [gokB, Bool.and_eq_true, connB, decide_eq_true_eq] at h
  obtain ⟨⟨h1, h2⟩, h3⟩ := h
  obtain ⟨h4, h5, h6⟩ := edgesB_spec h1
  refine ⟨n.toNat, by omega, ?_⟩
  have e : ((n.toNat : Nat) : Int) = n := by omega
  exact ⟨by rw [e]; exact h6, by rw [e]; exact h3, by omega, by omega, h5⟩
theorem impl_within_spec (x lo hi : Int) : impl_within (x, lo, hi, ()) = some (decide (lo ≤ x ∧ x ≤ hi), ()) := by
  simp only [impl_within]
  by_cases h : x ≥ lo
  · rw [cond_pos h]; simp [show lo ≤ x from h]
  · rw [cond_neg h]; simp [show ¬ lo ≤ x from h]
theorem spec_l01In_spec (x lo hi : Int) : spec_l01In (x, lo, hi, ()) = some (decide (lo ≤ x ∧ x ≤ hi), ()) := by
  simp only [spec_l01In]
  by_cases h : x ≥ lo
  · rw [cond_pos h]; simp [show lo ≤ x from h]
  · rw [cond_neg h]; simp [show ¬ lo ≤ x from h]
theorem impl_EdgesOk_spec (n : Int) (es : Es) (hb : es.length ≤ 8796093022208) : impl_EdgesOk (n, es, ()) = some (edgesB n es, ()) := by
  simp only [impl_EdgesOk, impl_within_spec, Option.bind_some]
  by_cases h1 : 1 ≤ n ∧ n ≤ 6
  · by_cases h2 : es.length ≤ 12
    · have hl := loop_forall (f := impl_EdgesOk_L58) (fun i => (es, (es.length : Int), i, n, es, ())) (fun e => decide (0 ≤ e.1 ∧ e.1 < e.2 ∧ e.2 < n)) es (false, ()) (true, ()) (fun i a ha => by
        have hi := lt_of_get ha
        simp only [impl_EdgesOk_L58]
        simp (disch := omega) only [cond_pos, chk_pos, w64_of, atD_nat, getD_of ha]
        by_cases a1 : a.1 < 0
        · rw [cond_pos a1, cond_neg (by omega)]; rfl
        · rw [cond_neg a1]
          by_cases a2 : a.1 ≥ a.2
          · rw [cond_pos a2, cond_neg (by omega)]; rfl
          · rw [cond_neg a2]
            by_cases a3 : a.2 ≥ n
            · rw [cond_pos a3, cond_neg (by omega)]; rfl
            · rw [cond_neg a3, cond_pos (by omega)]; rfl) (by
        simp only [impl_EdgesOk_L58]
        simp (disch := omega) only [cond_neg, Option.map_some])
      simp only [edgesB, h1, h2, and_self, decide_true, Bool.not_true, cond_false, joinB_inl, impl_EdgesOk_J12]
      rw [cond_neg (by omega), hl]
      cases es.all fun e => decide (0 ≤ e.1 ∧ e.1 < e.2 ∧ e.2 < n) <;> rfl
    · simp only [edgesB, h1, h2, and_self, decide_true, decide_false, Bool.not_true, cond_false, joinB_inl, impl_EdgesOk_J12]
      rw [cond_pos (by omega)]; rfl
  · simp only [edgesB, h1, decide_false, Bool.not_false, cond_true, joinB_inl, impl_EdgesOk_J12]; rfl
theorem spec_EdgesOk_spec (n : Int) (es : Es) (hb : es.length ≤ 8796093022208) : spec_EdgesOk (n, es, ()) = some (edgesB n es, ()) := by
  simp only [spec_EdgesOk, spec_l01In_spec, Option.bind_some]
  by_cases h1 : 1 ≤ n ∧ n ≤ 6
  · by_cases h2 : es.length ≤ 12
    · have hl := loop_forall (f := spec_EdgesOk_L58) (fun i => (es, (es.length : Int), i, n, es, ())) (fun e => decide (0 ≤ e.1 ∧ e.1 < e.2 ∧ e.2 < n)) es (false, ()) (true, ()) (fun i a ha => by
        have hi := lt_of_get ha
        simp only [spec_EdgesOk_L58, spec_l01In_spec, Option.bind_some]
        simp (disch := omega) only [cond_pos, chk_pos, w64_of, atD_nat, getD_of ha]
        by_cases a1 : 0 ≤ a.1 ∧ a.1 ≤ n - 1
        · rw [decide_eq_true a1]
          simp only [Bool.not_true, cond_false]
          rw [w64_of (by omega) (by omega)]
          by_cases a2 : a.1 + 1 ≤ a.2 ∧ a.2 ≤ n - 1
          · rw [decide_eq_true a2, cond_pos (by omega)]; rfl
          · rw [decide_eq_false a2, cond_neg (by omega)]; rfl
        · rw [decide_eq_false a1, cond_neg (by omega)]; rfl) (by
        simp only [spec_EdgesOk_L58]
        simp (disch := omega) only [cond_neg, Option.map_some])
      simp only [edgesB, h1, h2, and_self, decide_true, Bool.not_true, cond_false, joinB_inl, spec_EdgesOk_J12]
      rw [cond_neg (by omega), hl]
      cases es.all fun e => decide (0 ≤ e.1 ∧ e.1 < e.2 ∧ e.2 < n) <;> rfl
    · simp only [edgesB, h1, h2, and_self, decide_true, decide_false, Bool.not_true, cond_false, joinB_inl, spec_EdgesOk_J12]
      rw [cond_pos (by omega)]; rfl
  · simp only [edgesB, h1, decide_false, Bool.not_false, cond_true, joinB_inl, spec_EdgesOk_J12]; rfl
theorem cmp_Compare_int_spec (a b : Int) : cmp_Compare_int (a, b, ()) = some (if a < b then -1 else if b < a then 1 else 0, ()) := by
  simp only [cmp_Compare_int, cmp_isNaN_int, Option.bind_some, bne_self_eq_false, cond_false]
  by_cases h1 : a < b
  · rw [cond_pos h1, if_pos h1]
  · rw [cond_neg h1, if_neg h1]
    by_cases h2 : b < a
    · rw [cond_pos h2, if_pos h2]
    · rw [cond_neg h2, if_neg h2]
theorem impl_compareEdges_neg (a b : Int × Int) : ∃ c, impl_compareEdges (a.1, a.2, b.1, b.2, ()) = some (c, ()) ∧ decide (c < 0) = ltB a b := by
  simp only [impl_compareEdges, cmp_Compare_int_spec, Option.bind_some]
  by_cases h1 : a.1 < b.1
  · refine ⟨-1, ?_, ?_⟩
    · rw [if_pos h1]; rfl
    · simp [ltB, h1]
  · by_cases h2 : b.1 < a.1
    · refine ⟨1, ?_, ?_⟩
      · rw [if_neg h1, if_pos h2]; rfl
      · have : ¬ a.1 = b.1 := by omega
        simp [ltB, h1, this]
    · have e : a.1 = b.1 := by omega
      refine ⟨if a.2 < b.2 then -1 else if b.2 < a.2 then 1 else 0, ?_, ?_⟩
      · rw [if_neg h1, if_neg h2]; rfl
      · by_cases h3 : a.2 < b.2
        · simp [ltB, h3, e]
        · rw [if_neg h3]
          have : ¬ (if b.2 < a.2 then (1 : Int) else 0) < 0 := by split <;> omega
          simp [ltB, h3, h1, this]
theorem impl_sorted_spec (es : Es) (hb : es.length ≤ 8796093022208) : slices_IsSortedFunc_impl_Edge_impl_Edge (es, ()) = some (sortedB es, ()) := by
  simp only [slices_IsSortedFunc_impl_Edge_impl_Edge]
  rw [w64_of (by omega) (by omega)]
  by_cases h0 : es.length = 0
  · have : es = [] := List.eq_nil_of_length_eq_zero h0
    subst this
    apply loop_out
    simp only [slices_IsSortedFunc_impl_Edge_impl_Edge_L26]
    rfl
  · have e1 : (es.length : Int) - 1 = ((es.length - 1 : Nat) : Int) := by omega
    rw [e1]
    have := loop_downN (f := slices_IsSortedFunc_impl_Edge_impl_Edge_L26) (fun i => (es, i, ())) (fun i => !ltB (es.getD i (0, 0)) (es.getD (i - 1) (0, 0))) (false, ()) (true, ()) (es.length - 1) (fun i hi => by
      simp only [slices_IsSortedFunc_impl_Edge_impl_Edge_L26]
      have e2 : ((i + 1 : Nat) : Int) - 1 = (i : Int) := by omega
      obtain ⟨c, hc, hd⟩ := impl_compareEdges_neg (es.getD (i + 1) (0, 0)) (es.getD i (0, 0))
      simp (disch := omega) only [cond_pos, chk_pos, w64_of, e2, atD_nat, hc, Option.bind_some, hd, Nat.add_sub_cancel]
      cases ltB (es.getD (i + 1) (0, 0)) (es.getD i (0, 0)) <;> rfl) (by
      simp only [slices_IsSortedFunc_impl_Edge_impl_Edge_L26]
      rfl)
    rw [this]
    simp only [sortedB, Nat.add_sub_cancel]
    cases (List.range (es.length - 1)).all fun i => !ltB (es.getD (i + 1) (0, 0)) (es.getD i (0, 0)) <;> rfl
theorem impl_connected_spec (n : Nat) (es : Es) (he : EOk n es) (hn : 0 < n) (h6 : n ≤ 60) (hb : es.length ≤ 8796093022208) : impl_connected ((n : Int), es, ()) = some (connB n es, ()) := by
  have h1 : (1 : Nat) < 2 ^ n := Nat.one_lt_two_pow (by omega)
  have h2 : (2 : Nat) ^ n ≤ 2 ^ 60 := Nat.pow_le_pow_right (by omega) h6
  have inner : ∀ (r k : Nat), r < 2 ^ n → k < n → impl_connected_L58 ((n : Int), es, (r : Int), (n : Int), (k : Int), ()) = some (.inl ((n : Int), es, ((bpass es r : Nat) : Int), (n : Int), ((k + 1 : Nat) : Int), ())) := by
    intro r k hr hk
    simp only [impl_connected_L58]
    rw [cond_pos (by omega)]
    have := loop_fold (f := impl_connected_L7474) (fun (r : Nat) i => ((n : Int), es, (r : Int), (n : Int), (k : Int), es, (es.length : Int), i, ())) bstep (fun i r => r < 2 ^ n) es es.length rfl (fun r => .inl ((n : Int), es, (r : Int), (n : Int), ((k + 1 : Nat) : Int), ())) r hr (fun r i e hi hr => by
      have hlt := lt_of_get hi
      have hok := he e (List.mem_of_getElem? hi)
      refine ⟨?_, bstep_lt hok hr⟩
      have hr62 : r < 2 ^ 62 := by omega
      simp only [impl_connected_L7474]
      simp (disch := omega) only [cond_pos, chk_pos, w64_of, atD_nat, getD_of hi, bit_test r e.1 hr62, bit_test r e.2 hr62, bit_join r e.1 e.2 hr62]
      cases b1 : bset r e.1
      · cases b2 : bset r e.2
        · simp [bstep, b1, b2]
        · simp [bstep, b1, b2]
      · simp [bstep, b1]) (fun r hr => by
      simp only [impl_connected_L7474]
      simp (disch := omega) only [cond_neg, w64_of, Option.map_some]
      rfl)
    rw [this.1]; rfl
  simp only [impl_connected]
  have := loop_count (f := impl_connected_L58) (fun (r : Nat) k => ((n : Int), es, (r : Int), (n : Int), k, ())) (fun _ r => bpass es r) (fun _ r => r < 2 ^ n) n (fun r => (connB n es, ())) 1 h1 (fun r k hk hr => ⟨inner r k hr hk, bpass_lt es r he hr⟩)
  have hfold : ∀ k r, (List.range k).foldl (fun s i => bpass es s) r = iter (bpass es) k r := by
    intro k
    induction k with
    | zero => exact fun r => rfl
    | succ k ih => intro r; rw [List.range_succ, List.foldl_append, ih, iter_succ]; rfl
  -- the end is reached at the last set alone
  have hall := loop_for (f := impl_connected_L58) (fun k => ((n : Int), es, ((iter (bpass es) k 1 : Nat) : Int), (n : Int), (k : Int), ())) n (fun k hk => by
    rw [inner _ k (iter_lt he h1 k) hk, iter_succ])
  have e0 : loopM impl_connected_L58 ((n : Int), es, 1, (n : Int), 0, ()) = loopM impl_connected_L58 ((n : Int), es, ((iter (bpass es) n 1 : Nat) : Int), (n : Int), (n : Int), ()) := hall
  rw [e0]
  apply loop_out
  have hlt := iter_lt he h1 n
  simp only [impl_connected_L58]
  rw [cond_neg (by omega), chk_pos (by omega), ishl_one (n : Int) (by omega) (by omega)]
  rw [Int.toNat_natCast, Nat.one_shiftLeft, w64_of (by omega) (by omega)]
  have e3 : (((iter (bpass es) n 1 : Nat) : Int) == ((2 ^ n : Nat) : Int) - 1) = connB n es := by
    rw [Bool.eq_iff_iff, beq_iff_eq]
    simp only [connB, decide_eq_true_eq]
    rw [← bits_conn he hn]
    omega
  rw [e3]; rfl
theorem impl_GraphOk_spec (n : Int) (es : Es) (hb : es.length ≤ 8796093022208) : impl_GraphOk (n, es, ()) = some (gokB n es, ()) := by
  simp only [impl_GraphOk, impl_EdgesOk_spec n es hb, Option.bind_some, gokB]
  cases h : edgesB n es
  · rfl
  · simp only [cond_true, impl_sorted_spec es hb, Option.bind_some]
    cases h2 : sortedB es
    · rfl
    · obtain ⟨h3, h4, h5⟩ := edgesB_spec h
      obtain ⟨m, rfl⟩ := Int.eq_ofNat_of_zero_le (show 0 ≤ n by omega)
      simp only [cond_true, impl_connected_spec m es h5 (by omega) (by omega) hb, Option.bind_some, Bool.true_and]
end Go.Pm.Try

set_option linter.unusedVariables false
set_option linter.unusedSimpArgs false
namespace Go.Pm.Try
open Go.Pm Go.Pm.Th
theorem all_has (l : List Int) (x : Int) : (l.all fun a => !(a == x)) = !decide (x ∈ l) := by
  rw [Bool.eq_iff_iff]
  simp only [List.all_eq_true, Bool.not_eq_true', beq_eq_false_iff_ne, decide_eq_false_iff_not]
  exact ⟨fun h hx => h x hx rfl, fun h a ha e => h (e ▸ ha)⟩
theorem spec_l02Has_spec (l : List Int) (x : Int) (hb : l.length ≤ 17592186044416) : spec_l02Has (l, x, ()) = some (decide (x ∈ l), ()) := by
  simp only [spec_l02Has]
  have := loop_forall (f := spec_l02Has_L26) (fun i => (x, l, (l.length : Int), i, ())) (fun a => !(a == x)) l (true, ()) (false, ()) (fun i a ha => by
    have hi := lt_of_get ha
    simp only [spec_l02Has_L26]
    simp (disch := omega) only [cond_pos, chk_pos, w64_of, atD_nat, getD_of ha]
    cases a == x <;> rfl) (by
    simp only [spec_l02Has_L26]
    simp (disch := omega) only [cond_neg, Option.map_some])
  rw [this, all_has]
  cases decide (x ∈ l) <;> rfl
theorem get_append {α : Type} {l : List α} {i : Nat} {x : α} (h : l[i]? = some x) (t : List α) : (l ++ t)[i]? = some x := by
  rw [List.getElem?_append_left (lt_of_get h)]; exact h
theorem qadd_get {q : List Int} {i : Nat} {x : Int} (h : q[i]? = some x) (y : Int) : (qadd q y)[i]? = some x := by
  unfold qadd; split
  · exact h
  · exact get_append h _
theorem qadd_len (q : List Int) (y : Int) : (qadd q y).length ≤ q.length + 1 := by
  unfold qadd; split <;> simp
theorem spec_l02Reach_inner (n : Int) (es : Es) (hb : es.length ≤ 1000000000) (q : List Int) (at_ : Nat) (x : Int) (hx : q[at_]? = some x) (hq : q.length ≤ 1000000000) :
    loopM spec_l02Reach_L3730 (q, (at_ : Int), es, (es.length : Int), 0, n, es, ()) = some (.inl (qpass x es q, ((at_ + 1 : Nat) : Int), n, es, ())) := by
  have := loop_fold (f := spec_l02Reach_L3730) (fun q i => (q, (at_ : Int), es, (es.length : Int), i, n, es, ())) (qstep x) (fun i q => q[at_]? = some x ∧ q.length ≤ 1000000000 + 2 * i) es es.length rfl (fun q => .inl (q, ((at_ + 1 : Nat) : Int), n, es, ())) q ⟨hx, by omega⟩ (fun q i e hi ⟨hx, hq⟩ => by
    have hlt := lt_of_get hi
    have hat := lt_of_get hx
    have h1 : (if e.1 = x then qadd q e.2 else q)[at_]? = some x ∧ (if e.1 = x then qadd q e.2 else q).length ≤ q.length + 1 := by
      split
      · exact ⟨qadd_get hx _, qadd_len _ _⟩
      · exact ⟨hx, by omega⟩
    have h2 : (qstep x q e)[at_]? = some x ∧ (qstep x q e).length ≤ q.length + 2 := by
      unfold qstep; dsimp only; split
      · exact ⟨qadd_get h1.1 _, by have := qadd_len (if e.1 = x then qadd q e.2 else q) e.1; omega⟩
      · exact ⟨h1.1, by omega⟩
    refine ⟨?_, h2.1, by omega⟩
    simp only [spec_l02Reach_L3730]
    simp (disch := omega) only [cond_pos, chk_pos, w64_of, atD_nat, getD_of hi, getD_of hx, spec_l02Has_spec q e.2 (by omega), Option.bind_some]
    have step2 : ∀ q1 : List Int, q1[at_]? = some x → q1.length ≤ 2000000000000 → spec_l02Reach_J954981 (q1, (at_ : Int), es, (es.length : Int), (i : Int), n, es, e.1, e.2, ()) = some (.inl (if e.2 = x then qadd q1 e.1 else q1, (at_ : Int), es, (es.length : Int), ((i + 1 : Nat) : Int), n, es, ())) := by
      intro q1 hq1 hl1
      have := lt_of_get hq1
      simp only [spec_l02Reach_J954981]
      simp (disch := omega) only [chk_pos, w64_of, atD_nat, getD_of hq1, spec_l02Has_spec q1 e.1 (by omega), Option.bind_some]
      by_cases a1 : e.2 = x
      · rw [if_pos a1, a1]
        simp only [beq_self_eq_true, cond_true]
        by_cases a2 : e.1 ∈ q1
        · simp [a2, qadd]
        · simp only [a2, decide_false, Bool.not_false, cond_true, List.length_singleton]
          rw [chk_pos (by omega)]
          simp [a2, qadd]
      · rw [if_neg a1]
        have b1 : (e.2 == x) = false := by simpa using a1
        simp [b1]
    by_cases a1 : e.1 = x
    · simp only [a1, beq_self_eq_true, cond_true, joinB_inl, spec_l02Reach_J954980]
      simp only [a1, if_true] at h1
      by_cases a2 : e.2 ∈ q
      · simp only [a2, decide_true, Bool.not_true, cond_false, joinB_inl]
        rw [← a1, step2 q hx (by omega)]
        simp [qstep, a1, qadd, a2]
      · have e1 : qadd q e.2 = q ++ [e.2] := by simp [qadd, a2]
        simp only [a2, decide_false, Bool.not_false, cond_true, List.length_singleton]
        rw [chk_pos (by omega)]
        simp only [joinB_inl]
        rw [← e1, ← a1, step2 (qadd q e.2) h1.1 (by omega)]
        simp [qstep, a1]
    · have e1 : (e.1 == x) = false := by simpa using a1
      simp only [e1, cond_false, joinB_inl, spec_l02Reach_J954980]
      rw [step2 q hx (by omega)]
      simp [qstep, a1]) (fun q _ => by
    simp only [spec_l02Reach_L3730]
    have hat : (at_ : Int) + 1 = ((at_ + 1 : Nat) : Int) := by omega
    have := lt_of_get hx
    simp (disch := omega) only [cond_neg, w64_of, Option.map_some, hat])
  rw [this.1]; rfl
theorem spec_l02Reach_spec (g : Int) (n : Nat) (es : Es) (he : EOk n es) (hn : 0 < n) (h6 : n ≤ 1000) (hb : es.length ≤ 1000000000) : ∃ q, spec_l02Reach (g, es, ()) = some (q, ()) ∧ QInv n es 0 q ∧ QDone es q q.length := by
  have h0 : (0 : Int) ≤ 0 ∧ (0 : Int) < n := by omega
  have key : ∀ (m : Nat) (q : List Int) (at_ : Nat), n - at_ = m → QInv n es 0 q → QDone es q at_ → at_ ≤ q.length → ∃ q', loopM spec_l02Reach_L58 (q, (at_ : Int), g, es, ()) = some (q', ()) ∧ QInv n es 0 q' ∧ QDone es q' q'.length := by
    intro m
    induction m with
    | zero =>
      intro q at_ hm hi hd hle
      have hl := hi.len he h0
      refine ⟨q, ?_, hi, ?_⟩
      · apply loop_out
        simp only [spec_l02Reach_L58]
        simp (disch := omega) only [cond_neg, Option.map_some]
      · intro i hi'; exact hd i (by omega)
    | succ m ih =>
      intro q at_ hm hi hd hle
      have hl := hi.len he h0
      by_cases hlt : at_ < q.length
      · have hx : q[at_]? = some q[at_] := List.getElem?_eq_getElem hlt
        obtain ⟨i1, i2⟩ := qround hi hd hx
        obtain ⟨t, ht⟩ := qpass_pre q[at_] es q
        obtain ⟨q', h1, h2⟩ := ih (qpass q[at_] es q) (at_ + 1) (by omega) i1 i2 (by rw [ht]; simp; omega)
        refine ⟨q', ?_, h2⟩
        rw [← h1]
        apply loop_in
        simp only [spec_l02Reach_L58]
        simp (disch := omega) only [cond_pos, spec_l02Reach_inner g es hb q at_ _ hx (by omega)]
      · refine ⟨q, ?_, hi, ?_⟩
        · apply loop_out
          simp only [spec_l02Reach_L58]
          simp (disch := omega) only [cond_neg, Option.map_some]
        · intro i hi'; exact hd i (by omega)
  simp only [spec_l02Reach]
  exact key n [0] 0 (by omega) ⟨by simp, by simpa using .refl, rfl⟩ (fun i hi => by omega) (by simp)
theorem reach_conn (g : Int) (n : Nat) (es : Es) (he : EOk n es) (hn : 0 < n) (h6 : n ≤ 1000) (hb : es.length ≤ 1000000000) : ∃ q, spec_l02Reach (g, es, ()) = some (q, ()) ∧ ((q.length : Int) == (n : Int)) = connB n es := by
  obtain ⟨q, h1, h2, h3⟩ := spec_l02Reach_spec g n es he hn h6 hb
  refine ⟨q, h1, ?_⟩
  have := queue_conn he hn h2 h3
  rw [Bool.eq_iff_iff, beq_iff_eq]
  simp only [connB, decide_eq_true_eq]
  rw [← this]
  omega
theorem spec_GraphOk_spec (n : Int) (es : Es) (hb : es.length ≤ 8796093022208) : spec_GraphOk (n, es, ()) = some (gokB n es, ()) := by
  simp only [spec_GraphOk, spec_EdgesOk_spec n es hb, Option.bind_some, gokB]
  cases h : edgesB n es
  · rfl
  · simp only [Bool.not_true, cond_false, Bool.true_and]
    obtain ⟨h3, h4, h5⟩ := edgesB_spec h
    obtain ⟨m, rfl⟩ := Int.eq_ofNat_of_zero_le (show 0 ≤ n by omega)
    obtain ⟨q, hq, hc⟩ := reach_conn (m : Int) m es h5 (by omega) (by omega) (by omega)
    have := loop_forallN (f := spec_GraphOk_L58) (fun i => (es, (es.length : Int), i, (m : Int), es, ())) (fun i => decide (i = 0) || !ltB (es.getD i (0, 0)) (es.getD (i - 1) (0, 0))) es.length (false, ()) (connB m es, ()) (fun i hi => by
      simp only [spec_GraphOk_L58]
      by_cases h0 : i = 0
      · subst h0
        simp (disch := omega) only [cond_pos, cond_neg, chk_pos, w64_of]
        rfl
      · have e1 : (i : Int) - 1 = ((i - 1 : Nat) : Int) := by omega
        simp (disch := omega) only [cond_pos, chk_pos, w64_of, e1, atD_nat]
        generalize es.getD i (0, 0) = a
        generalize es.getD (i - 1) (0, 0) = b
        by_cases a1 : a.1 < b.1
        · simp [ltB, a1, h0]
        · rw [cond_neg a1]
          by_cases a2 : a.1 = b.1
          · by_cases a3 : a.2 < b.2
            · simp [ltB, a1, a2, a3, h0]
            · simp [ltB, a1, a2, a3, h0]
          · have b2 : (a.1 == b.1) = false := by simpa using a2
            simp [ltB, a1, a2, b2, h0]) (by
      simp only [spec_GraphOk_L58]
      simp (disch := omega) only [cond_neg, hq, Option.bind_some, hc, Option.map_some])
    rw [this]
    have e2 : ((List.range es.length).all fun i => decide (i = 0) || !ltB (es.getD i (0, 0)) (es.getD (i - 1) (0, 0))) = sortedB es := by
      rw [Bool.eq_iff_iff]
      simp only [sortedB, List.all_eq_true, List.mem_range, Bool.or_eq_true, decide_eq_true_eq]
      constructor
      · intro hh i hi
        rcases hh (i + 1) (by omega) with h' | h'
        · omega
        · simpa using h'
      · intro hh i hi
        by_cases h0 : i = 0
        · exact .inl h0
        · right
          have := hh (i - 1) (by omega)
          rw [show i - 1 + 1 = i by omega] at this
          exact this
    rw [e2]
    cases sortedB es <;> rfl
end Go.Pm.Try

set_option linter.unusedVariables false
set_option linter.unusedSimpArgs false
namespace Go.Pm.Try
open Go.Pm Go.Pm.Th
theorem bne_false_iff (a b : Int) : (a != b) = !decide (a = b) := by
  by_cases h : a = b
  · simp [h]
  · have : (a == b) = false := by simpa using h
    simp [bne, this, h]
theorem beq_dec (a b : Int) : (a == b) = decide (a = b) := by
  by_cases h : a = b
  · simp [h]
  · have : (a == b) = false := by simpa using h
    simp [this, h]
def allInB (l : List Int) (lo hi : Int) : Bool := l.all fun x => decide (lo ≤ x ∧ x ≤ hi)
theorem impl_allWithin_spec (l : List Int) (lo hi : Int) (hb : l.length ≤ 17592186044416) : impl_allWithin (l, lo, hi, ()) = some (allInB l lo hi, ()) := by
  simp only [impl_allWithin]
  have := loop_forall (f := impl_allWithin_L26) (fun i => (lo, hi, l, (l.length : Int), i, ())) (fun x => decide (lo ≤ x ∧ x ≤ hi)) l (false, ()) (true, ()) (fun i a ha => by
    have hi' := lt_of_get ha
    simp only [impl_allWithin_L26, impl_within_spec, Option.bind_some]
    simp (disch := omega) only [cond_pos, chk_pos, w64_of, atD_nat, getD_of ha]
    cases decide (lo ≤ a ∧ a ≤ hi) <;> rfl) (by
    simp only [impl_allWithin_L26]
    simp (disch := omega) only [cond_neg, Option.map_some])
  rw [this]
  show _ = some (allInB l lo hi, ())
  unfold allInB
  cases l.all fun x => decide (lo ≤ x ∧ x ≤ hi) <;> rfl
noncomputable def divOkB (n : Int) (es : Es) (d : List Int) : Bool := gokB n es && (decide ((d.length : Int) = n) && allInB d (-60) 60)
theorem impl_DivisorOk_spec (n : Int) (es : Es) (d : List Int) (hb : es.length ≤ 8796093022208) (hd : d.length ≤ 17592186044416) : impl_DivisorOk (n, es, d, ()) = some (divOkB n es d, ()) := by
  simp only [impl_DivisorOk, impl_GraphOk_spec n es hb, impl_allWithin_spec d _ _ hd, Option.bind_some, divOkB, beq_dec]
  cases gokB n es <;> cases decide ((d.length : Int) = n) <;> rfl
/-- a vertex of a graph with so many vertices -/
def inB (q n : Int) : Bool := decide (0 ≤ q ∧ q < n)
theorem inB_iff {q n : Int} : inB q n = true ↔ 0 ≤ q ∧ q < n := by simp [inB]
theorem within_vertex {n : Int} (h : 1 ≤ n ∧ n ≤ 6) (q : Int) : decide (0 ≤ q ∧ q ≤ w64 (n - 1)) = inB q n := by
  rw [w64_of (by omega) (by omega), inB]
  exact decide_eq_decide.2 (by omega)
theorem gokB_n {n : Int} {es : Es} (h : gokB n es = true) : (1 ≤ n ∧ n ≤ 6) ∧ es.length ≤ 12 := by
  simp only [gokB, Bool.and_eq_true] at h
  have := edgesB_spec h.1.1
  exact ⟨this.1, this.2.1⟩
theorem divOkB_len {n : Int} {es : Es} {d : List Int} (h : divOkB n es d = true) : gokB n es = true ∧ (d.length : Int) = n ∧ ∀ x ∈ d, -60 ≤ x ∧ x ≤ 60 := by
  simp only [divOkB, Bool.and_eq_true, decide_eq_true_eq, allInB, List.all_eq_true] at h
  exact ⟨h.1, h.2.1, h.2.2⟩
theorem atD_at0 (l : List Int) (v : Int) : atD 0 l v = at0 l v := rfl
theorem atD_edge (es : Es) (k : Int) : atD (0, 0) es k = edge es k := rfl
end Go.Pm.Try

set_option linter.unusedVariables false
set_option linter.unusedSimpArgs false
set_option linter.unusedSectionVars false
namespace Go.Pm.Try
open Go.Pm Go.Pm.Th
section
variable {α σ S R : Type} {f : S → Option (S ⊕ R)}
end
/-- edges with their images -/
abbrev Zs := List ((Int × Int) × Int)
def edgeMapB (hs : Es) (vs : List Int) (a : (Int × Int) × Int) : Bool :=
  if a.2 = -1 then decide (at0 vs a.1.1 = at0 vs a.1.2)
  else decide (0 ≤ a.2 ∧ a.2 < hs.length) && (decide ((edge hs a.2).1 = min2 (at0 vs a.1.1) (at0 vs a.1.2)) && decide ((edge hs a.2).2 = max2 (at0 vs a.1.1) (at0 vs a.1.2)))
noncomputable def morB (n : Int) (es : Es) (N : Int) (hs : Es) (vs ks : List Int) : Bool :=
  gokB n es && (gokB N hs && (decide ((vs.length : Int) = n) && (decide ((ks.length : Int) = es.length) && (allInB vs 0 (N - 1) && (es.zip ks).all (edgeMapB hs vs)))))
theorem zip_get {es : Es} {ks : List Int} {i : Nat} {a : (Int × Int) × Int} (h : (es.zip ks)[i]? = some a) : es[i]? = some a.1 ∧ ks[i]? = some a.2 := by
  rw [List.getElem?_zip_eq_some] at h
  exact h
theorem impl_MorphismOk_spec (n : Int) (es : Es) (N : Int) (hs : Es) (vs ks : List Int) (hb : es.length ≤ 8796093022208) (hc : hs.length ≤ 8796093022208) (hv : vs.length ≤ 17592186044416) (hk : ks.length ≤ 17592186044416) :
    impl_MorphismOk (n, es, N, hs, vs, ks, ()) = some (morB n es N hs vs ks, ()) := by
  simp only [impl_MorphismOk, impl_GraphOk_spec n es hb, impl_GraphOk_spec N hs hc, impl_allWithin_spec vs _ _ hv, impl_allWithin_spec ks _ _ hk, Option.bind_some, bne_false_iff, morB]
  cases hg : gokB n es
  · rfl
  cases hh : gokB N hs
  · rfl
  by_cases h1 : (vs.length : Int) = n
  rotate_left
  · simp [h1, impl_MorphismOk_J12]
  by_cases h2 : (ks.length : Int) = es.length
  rotate_left
  · simp [h1, h2, impl_MorphismOk_J12]
  have hN := gokB_n hh
  have he : EOk n es := (edgesB_spec (by simp only [gokB, Bool.and_eq_true] at hg; exact hg.1.1)).2.2
  have hz : (es.zip ks).length = es.length := by rw [List.length_zip]; omega
  simp only [h1, h2, decide_true, Bool.not_true, cond_false, Bool.true_and]
  rw [w64_of (x := N - 1) (by omega) (by omega), w64_of (x := (hs.length : Int) - 1) (by omega) (by omega)]
  cases allInB vs 0 (N - 1)
  · rfl
  cases hall : allInB ks (-1) ((hs.length : Int) - 1)
  · simp only [Bool.not_true, Bool.not_false, cond_false, joinB_inl, impl_MorphismOk_J12, cond_true, Bool.true_and]
    have : (es.zip ks).all (edgeMapB hs vs) = false := by
      rw [Bool.eq_false_iff]
      intro hall'
      rw [List.all_eq_true] at hall'
      rw [allInB, List.all_eq_false] at hall
      obtain ⟨x, hx, hno⟩ := hall
      obtain ⟨i, hi⟩ := List.getElem?_of_mem hx
      have hlt := lt_of_get hi
      have hget : (es.zip ks)[i]? = some (es[i]'(by omega), x) := List.getElem?_zip_eq_some.2 ⟨List.getElem?_eq_getElem (by omega), hi⟩
      have := hall' _ (List.mem_of_getElem? hget)
      unfold edgeMapB at this
      simp only [] at this
      simp only [decide_eq_true_eq] at hno
      split at this
      · omega
      · simp only [Bool.and_eq_true, decide_eq_true_eq] at this
        omega
    rw [this]
  simp only [Bool.not_true, cond_false, joinB_inl, impl_MorphismOk_J12, Bool.true_and]
  have hall' : ∀ x ∈ ks, -1 ≤ x ∧ x ≤ (hs.length : Int) - 1 := by simpa [allInB] using hall
  have l2 := loop_forall (f := impl_MorphismOk_L58) (fun i => (ks, (ks.length : Int), i, n, es, N, hs, vs, ks, ())) (edgeMapB hs vs) (es.zip ks) (false, ()) (true, ()) (fun i a ha => by
    obtain ⟨g1, g2⟩ := zip_get ha
    have hi := lt_of_get g1
    have ho := he a.1 (List.mem_of_getElem? g1)
    have hr := hall' a.2 (List.mem_of_getElem? g2)
    simp only [impl_MorphismOk_L58, atD_nat, getD_of g1, getD_of g2]
    simp (disch := omega) only [cond_pos, chk_pos, w64_of, beq_dec, bne_false_iff]
    unfold edgeMapB
    by_cases c1 : a.2 = -1
    · rw [if_pos c1, decide_eq_true c1, decide_eq_false (show ¬ a.2 ≥ 0 by omega)]
      by_cases q : at0 vs a.1.1 = at0 vs a.1.2 <;> simp [q, atD_at0]
    · rw [if_neg c1, decide_eq_false c1]
      have c2 : 0 ≤ a.2 ∧ a.2 < hs.length := by omega
      rw [decide_eq_true c2, decide_eq_true (show a.2 ≥ 0 by omega)]
      simp only [cond_false, cond_true, Bool.not_true, Bool.true_and, chk_pos c2, atD_at0, atD_edge]
      by_cases q : (edge hs a.2).1 = min2 (at0 vs a.1.1) (at0 vs a.1.2) <;> by_cases q2 : (edge hs a.2).2 = max2 (at0 vs a.1.1) (at0 vs a.1.2) <;> simp [q, q2]) (by
    rw [hz]
    simp only [impl_MorphismOk_L58]
    simp (disch := omega) only [cond_neg, Option.map_some])
  have l2' : loopM impl_MorphismOk_L58 (ks, (ks.length : Int), 0, n, es, N, hs, vs, ks, ()) = _ := l2
  rw [l2']
  cases (es.zip ks).all (edgeMapB hs vs) <;> rfl
def over1 (v k : Int) (a : (Int × Int) × Int) : Int := if (a.1.1 = v ∨ a.1.2 = v) ∧ a.2 = k then 1 else 0
def overZ (z : Zs) (v k : Int) : Int := z.foldl (fun s a => s + over1 v k a) 0
theorem over1_01 (v k : Int) (a : (Int × Int) × Int) : 0 ≤ over1 v k a ∧ over1 v k a ≤ 1 := by unfold over1; split <;> omega
theorem over_fold (v k : Int) : ∀ (z : Zs) (s : Int), 0 ≤ s → 0 ≤ z.foldl (fun s a => s + over1 v k a) s
  | [], s, h => h
  | a :: z, s, h => over_fold v k z (s + over1 v k a) (by have := over1_01 v k a; omega)
theorem overZ_nonneg (z : Zs) (v k : Int) : 0 ≤ overZ z v k := over_fold v k z 0 (Int.le_refl _)
def atImg (hs : Es) (vs : List Int) (v : Int) (j : Nat) : Bool := decide ((edge hs j).1 = at0 vs v) || decide ((edge hs j).2 = at0 vs v)
def mults (z : Zs) (hs : Es) (vs : List Int) (v : Int) : List Int := ((List.range hs.length).filter (atImg hs vs v)).map fun (j : Nat) => overZ z v (j : Int)
def allEqB : List Int → Bool
  | [] => true
  | a :: t => t.all fun x => decide (x = a)
theorem impl_isAt_spec (n : Int) (es : Es) (k : Nat) (v : Int) (hk : k < es.length) (hb : es.length ≤ 1000000) : impl_isAt (n, es, (k : Int), v, ()) = some (decide ((edge es k).1 = v) || decide ((edge es k).2 = v), ()) := by
  simp only [impl_isAt, impl_within_spec, Option.bind_some]
  rw [w64_of (by omega) (by omega), decide_eq_true (show (0 : Int) ≤ (k : Int) ∧ (k : Int) ≤ (es.length : Int) - 1 by omega)]
  simp (disch := omega) only [cond_true, chk_pos, beq_dec, atD_edge]
  cases decide ((edge es (k : Int)).1 = v) <;> rfl
theorem foldl_filter {α β : Type} (p : α → Bool) (f : α → β) : ∀ (l : List α) (out : List β), l.foldl (fun s j => if p j then s ++ [f j] else s) out = out ++ (l.filter p).map f
  | [], out => by simp
  | j :: l, out => by
    simp only [List.foldl_cons]
    rw [foldl_filter p f l]
    by_cases h : p j = true
    · rw [if_pos h, List.filter_cons_of_pos h]; simp
    · rw [if_neg h, List.filter_cons_of_neg h]
theorem impl_multiplicities_spec (n : Int) (es : Es) (N : Int) (hs : Es) (vs ks : List Int) (v : Int) (hz : ks.length = es.length) (hb : es.length ≤ 1000000) (hc : hs.length ≤ 1000000) (hv : 0 ≤ v ∧ v < vs.length) :
    impl_multiplicities (n, es, N, hs, vs, ks, v, ()) = some (mults (es.zip ks) hs vs v, ()) := by
  simp only [impl_multiplicities]
  have hzl : (es.zip ks).length = ks.length := by rw [List.length_zip]; omega
  have inner : ∀ (out : List Int) (j : Nat), out.length ≤ 1000000 → j ≤ 1000000 → loopM impl_multiplicities_L119610 (v, out, (j : Int), 0, (hs.length : Int), (j : Int), ks, (ks.length : Int), 0, n, es, N, hs, vs, ks, ()) = some (.inl (v, out ++ [overZ (es.zip ks) v (j : Int)], (hs.length : Int), ((j + 1 : Nat) : Int), n, es, N, hs, vs, ks, ())) := by
    intro out j ho hj
    have := loop_fold (f := impl_multiplicities_L119610) (fun s i => (v, out, (j : Int), s, (hs.length : Int), (j : Int), ks, (ks.length : Int), i, n, es, N, hs, vs, ks, ())) (fun (s : Int) a => s + over1 v (j : Int) a) (fun i s => 0 ≤ s ∧ s ≤ i) (es.zip ks) ks.length hzl.symm (fun s => .inl (v, out ++ [s], (hs.length : Int), ((j + 1 : Nat) : Int), n, es, N, hs, vs, ks, ())) 0 ⟨Int.le_refl _, Int.le_refl _⟩ (fun s i a ha hs' => by
      obtain ⟨g1, g2⟩ := zip_get ha
      have hi := lt_of_get g1
      have ho := over1_01 v (j : Int) a
      refine ⟨?_, show 0 ≤ s + over1 v (j : Int) a ∧ s + over1 v (j : Int) a ≤ ((i + 1 : Nat) : Int) by omega⟩
      have hed : edge es (i : Int) = a.1 := by rw [← atD_edge, atD_nat, getD_of g1]
      simp only [impl_multiplicities_L119610, atD_nat, getD_of g2, impl_isAt_spec n es i v hi hb, Option.bind_some, hed]
      simp (disch := omega) only [cond_pos, chk_pos, w64_of, beq_dec]
      unfold over1
      by_cases h2 : a.2 = (j : Int)
      · by_cases h1 : a.1.1 = v
        · simp [h1, h2]
        · by_cases h3 : a.1.2 = v
          · simp [h1, h2, h3]
          · simp [h1, h2, h3]
      · simp [h2]) (fun s hs' => by
      simp only [impl_multiplicities_L119610]
      rw [cond_neg (by omega), chk_pos (by simp; omega), w64_of (by omega) (by omega)]
      rfl)
    exact this.1
  have := loop_count (f := impl_multiplicities_L58) (fun s i => (v, s, (hs.length : Int), i, n, es, N, hs, vs, ks, ())) (fun j (s : List Int) => if atImg hs vs v j then s ++ [overZ (es.zip ks) v (j : Int)] else s) (fun i s => s.length ≤ i) hs.length (fun s => (s, ())) [] (by simp) (fun s i hi hs' => by
    refine ⟨?_, ?_⟩
    rotate_left
    · show (if atImg hs vs v i = true then s ++ [overZ (es.zip ks) v (i : Int)] else s).length ≤ i + 1
      split
      · simp; omega
      · omega
    simp only [impl_multiplicities_L58]
    rw [cond_pos (by omega), chk_pos (by omega), atD_at0, impl_isAt_spec N hs i (at0 vs v) hi hc]
    simp only [Option.bind_some]
    cases h1 : atImg hs vs v i
    · rw [show (decide ((edge hs (i : Int)).1 = at0 vs v) || decide ((edge hs (i : Int)).2 = at0 vs v)) = false from h1]
      simp (disch := omega) only [Bool.not_false, cond_true, w64_of]
      rfl
    · rw [show (decide ((edge hs (i : Int)).1 = at0 vs v) || decide ((edge hs (i : Int)).2 = at0 vs v)) = true from h1]
      simp only [Bool.not_true, cond_false, if_true]
      exact inner s i (by omega) (by omega)) (fun s hs' => by
    simp only [impl_multiplicities_L58]
    rw [cond_neg (by omega)]; rfl)
  have h1 := this.1
  rw [foldl_filter (atImg hs vs v) (fun (j : Nat) => overZ (es.zip ks) v (j : Int))] at h1
  exact h1
def minL (a : Int) (t : List Int) : Int := t.foldl min2 a
def maxL (a : Int) (t : List Int) : Int := t.foldl max2 a
theorem slices_Min_spec (a : Int) (t : List Int) (hb : t.length ≤ 1000000) : slices_Min_int_int (a :: t, ()) = some (minL a t, ()) := by
  simp only [slices_Min_int_int]
  rw [cond_neg (by simp; omega)]
  simp only [joinB_inl, slices_Min_int_int_J13]
  rw [chk_pos ⟨Int.le_refl _, by simp⟩]
  have := loop_fold (f := slices_Min_int_int_L122) (fun s i => (a :: t, s, i + 1, ())) min2 (fun _ _ => True) t t.length rfl (fun s => (s, ())) a trivial (fun s i x hi _ => by
    have hlt := lt_of_get hi
    refine ⟨?_, trivial⟩
    have e : (i : Int) + 1 = ((i + 1 : Nat) : Int) := by omega
    have hg : (a :: t)[i + 1]? = some x := by simpa using hi
    have hl : (a :: t).length = t.length + 1 := rfl
    simp only [slices_Min_int_int_L122, e, atD_nat, getD_of hg, hl]
    rw [cond_pos (by omega), chk_pos (by omega), w64_of (by omega) (by omega)]) (fun s _ => by
    have hl : (a :: t).length = t.length + 1 := rfl
    simp only [slices_Min_int_int_L122, hl]
    rw [cond_neg (by omega)]; rfl)
  exact this.1
theorem slices_Max_spec (a : Int) (t : List Int) (hb : t.length ≤ 1000000) : slices_Max_int_int (a :: t, ()) = some (maxL a t, ()) := by
  simp only [slices_Max_int_int]
  rw [cond_neg (by simp; omega)]
  simp only [joinB_inl, slices_Max_int_int_J13]
  rw [chk_pos ⟨Int.le_refl _, by simp⟩]
  have := loop_fold (f := slices_Max_int_int_L122) (fun s i => (a :: t, s, i + 1, ())) max2 (fun _ _ => True) t t.length rfl (fun s => (s, ())) a trivial (fun s i x hi _ => by
    have hlt := lt_of_get hi
    refine ⟨?_, trivial⟩
    have e : (i : Int) + 1 = ((i + 1 : Nat) : Int) := by omega
    have hg : (a :: t)[i + 1]? = some x := by simpa using hi
    have hl : (a :: t).length = t.length + 1 := rfl
    simp only [slices_Max_int_int_L122, e, atD_nat, getD_of hg, hl]
    rw [cond_pos (by omega), chk_pos (by omega), w64_of (by omega) (by omega)]) (fun s _ => by
    have hl : (a :: t).length = t.length + 1 := rfl
    simp only [slices_Max_int_int_L122, hl]
    rw [cond_neg (by omega)]; rfl)
  exact this.1
theorem minL_le : ∀ (t : List Int) (a : Int), minL a t ≤ a ∧ ∀ x ∈ t, minL a t ≤ x
  | [], a => ⟨Int.le_refl _, fun x h => by simp at h⟩
  | b :: t, a => by
    have ih := minL_le t (min2 a b)
    have hm : min2 a b ≤ a ∧ min2 a b ≤ b := by unfold min2; split <;> omega
    show minL (min2 a b) t ≤ a ∧ ∀ x ∈ b :: t, minL (min2 a b) t ≤ x
    refine ⟨by omega, fun x hx => ?_⟩
    rcases List.mem_cons.1 hx with rfl | hx
    · omega
    · exact ih.2 x hx
theorem maxL_ge : ∀ (t : List Int) (a : Int), a ≤ maxL a t ∧ ∀ x ∈ t, x ≤ maxL a t
  | [], a => ⟨Int.le_refl _, fun x h => by simp at h⟩
  | b :: t, a => by
    have ih := maxL_ge t (max2 a b)
    have hm : a ≤ max2 a b ∧ b ≤ max2 a b := by unfold max2; split <;> omega
    show a ≤ maxL (max2 a b) t ∧ ∀ x ∈ b :: t, x ≤ maxL (max2 a b) t
    refine ⟨by omega, fun x hx => ?_⟩
    rcases List.mem_cons.1 hx with rfl | hx
    · omega
    · exact ih.2 x hx
theorem minL_const : ∀ (t : List Int) (a : Int), (∀ x ∈ t, x = a) → minL a t = a ∧ maxL a t = a
  | [], a, _ => ⟨rfl, rfl⟩
  | b :: t, a, h => by
    have hb : b = a := h b (by simp)
    subst hb
    have ih := minL_const t b fun x hx => h x (by simp [hx])
    have h1 : min2 b b = b := by simp [min2]
    have h2 : max2 b b = b := by simp [max2]
    show minL (min2 b b) t = b ∧ maxL (max2 b b) t = b
    rw [h1, h2]; exact ih
theorem minL_maxL (a : Int) (t : List Int) : minL a t = maxL a t ↔ allEqB (a :: t) = true := by
  simp only [allEqB, List.all_eq_true, decide_eq_true_eq]
  constructor
  · intro h x hx
    have := minL_le t a
    have := maxL_ge t a
    have := (minL_le t a).2 x hx
    have := (maxL_ge t a).2 x hx
    omega
  · intro h
    obtain ⟨h1, h2⟩ := minL_const t a h
    rw [h1, h2]
noncomputable def harmB (n : Int) (es : Es) (N : Int) (hs : Es) (vs ks : List Int) : Bool := morB n es N hs vs ks && (List.range n.toNat).all fun (v : Nat) => allEqB (mults (es.zip ks) hs vs (v : Int))
theorem morB_len {n : Int} {es : Es} {N : Int} {hs : Es} {vs ks : List Int} (h : morB n es N hs vs ks = true) : gokB n es = true ∧ gokB N hs = true ∧ (vs.length : Int) = n ∧ ks.length = es.length ∧ (∀ x ∈ vs, 0 ≤ x ∧ x ≤ N - 1) ∧ ∀ a ∈ es.zip ks, edgeMapB hs vs a = true := by
  simp only [morB, Bool.and_eq_true, decide_eq_true_eq, allInB, List.all_eq_true] at h
  exact ⟨h.1, h.2.1, h.2.2.1, by have := h.2.2.2.1; omega, h.2.2.2.2.1, h.2.2.2.2.2⟩
theorem mults_len (z : Zs) (hs : Es) (vs : List Int) (v : Int) : (mults z hs vs v).length ≤ hs.length := by
  unfold mults
  rw [List.length_map]
  have := List.length_filter_le (atImg hs vs v) (List.range hs.length)
  simpa using this
theorem impl_IsHarmonic_spec (n : Int) (es : Es) (N : Int) (hs : Es) (vs ks : List Int) (hb : es.length ≤ 8796093022208) (hc : hs.length ≤ 8796093022208) (hv : vs.length ≤ 17592186044416) (hk : ks.length ≤ 17592186044416) :
    impl_IsHarmonic (n, es, N, hs, vs, ks, ()) = some (harmB n es N hs vs ks, ()) := by
  simp only [impl_IsHarmonic, impl_MorphismOk_spec n es N hs vs ks hb hc hv hk, Option.bind_some, harmB]
  cases hm : morB n es N hs vs ks
  · rfl
  obtain ⟨hg, hh, h1, h2, h3, h4⟩ := morB_len hm
  have hn := gokB_n hg
  have hN := gokB_n hh
  simp only [Bool.not_true, cond_false, Bool.true_and]
  have := loop_forallN (f := impl_IsHarmonic_L58) (fun i => ((vs.length : Int), i, n, es, N, hs, vs, ks, ())) (fun (v : Nat) => allEqB (mults (es.zip ks) hs vs (v : Int))) n.toNat (false, ()) (true, ()) (fun i hi => by
    simp only [impl_IsHarmonic_L58]
    rw [cond_pos (by omega), impl_multiplicities_spec n es N hs vs ks (i : Int) h2 (by omega) (by omega) ⟨by omega, by omega⟩]
    simp only [Option.bind_some]
    have hl := mults_len (es.zip ks) hs vs (i : Int)
    cases hq : mults (es.zip ks) hs vs (i : Int) with
    | nil =>
      rw [cond_neg (by simp), w64_of (by omega) (by omega)]
      rfl
    | cons a t =>
      rw [hq] at hl
      have hl' : t.length + 1 ≤ hs.length := hl
      rw [cond_pos (by simp), slices_Min_spec a t (by omega), slices_Max_spec a t (by omega)]
      simp only [Option.bind_some, bne_false_iff]
      by_cases he : minL a t = maxL a t
      · rw [decide_eq_true he, (minL_maxL a t).1 he, w64_of (by omega) (by omega)]
        rfl
      · have : allEqB (a :: t) = false := by rw [Bool.eq_false_iff]; exact fun h => he ((minL_maxL a t).2 h)
        rw [decide_eq_false he, this]
        rfl) (by
    simp only [impl_IsHarmonic_L58]
    rw [cond_neg (by omega)]; rfl)
  have this' : loopM impl_IsHarmonic_L58 ((vs.length : Int), 0, n, es, N, hs, vs, ks, ()) = _ := this
  rw [this']
  cases (List.range n.toNat).all fun (v : Nat) => allEqB (mults (es.zip ks) hs vs (v : Int)) <;> rfl
end Go.Pm.Try

set_option linter.unusedVariables false
set_option linter.unusedSimpArgs false
set_option linter.unusedSectionVars false
namespace Go.Pm.Try
open Go.Pm Go.Pm.Th
def lsum (l : List Int) (f : Int → Int) : Int := (l.map f).sum
theorem lsum_cons (a : Int) (l : List Int) (f : Int → Int) : lsum (a :: l) f = f a + lsum l f := by simp [lsum]
theorem lsum_nil (f : Int → Int) : lsum [] f = 0 := rfl
theorem lsum_append (l m : List Int) (f : Int → Int) : lsum (l ++ m) f = lsum l f + lsum m f := by simp [lsum]
theorem lsum_bound {l : List Int} {f : Int → Int} {B : Int} (hl : l.length ≤ 3) (h : ∀ k, 0 ≤ f k ∧ f k ≤ B) (hB : 0 ≤ B) : 0 ≤ lsum l f ∧ lsum l f ≤ 3 * B := by
  match l, hl with
  | [], _ => simp only [lsum_nil]; omega
  | [a], _ => simp only [lsum_nil, lsum_cons]; have := h a; omega
  | [a, b], _ => simp only [lsum_nil, lsum_cons]; have := h a; have := h b; omega
  | [a, b, c], _ => simp only [lsum_nil, lsum_cons]; have := h a; have := h b; have := h c; omega
theorem lsum_nonneg {f : Int → Int} (h : ∀ k, 0 ≤ f k) : ∀ l : List Int, 0 ≤ lsum l f
  | [] => Int.le_refl _
  | a :: l => by rw [lsum_cons]; have := lsum_nonneg h l; have := h a; omega
theorem filter_map_cons (p : Nat → Bool) (f : Nat → Int) (i : Nat) (l : List Nat) : ((i :: l).filter p).map f = if p i then f i :: (l.filter p).map f else (l.filter p).map f := by
  by_cases h : p i = true
  · rw [if_pos h, List.filter_cons_of_pos h, List.map_cons]
  · rw [if_neg h, List.filter_cons_of_neg h]
/-- the images that an edge may have -/
def fitB (hs : Es) (vs : List Int) (e : Int × Int) (k : Int) : Bool := decide ((edge hs k).1 = min2 (at0 vs e.1) (at0 vs e.2)) && decide ((edge hs k).2 = max2 (at0 vs e.1) (at0 vs e.2))
def imgs (hs : Es) (vs : List Int) (e : Int × Int) : List Int := if at0 vs e.1 = at0 vs e.2 then [-1] else ((List.range hs.length).filter fun (j : Nat) => fitB hs vs e (j : Int)).map fun (j : Nat) => (j : Int)
/-- all choices, edge by edge -/
def cntM (leaf : List Int → Int) (choose : Int × Int → List Int) : Es → List Int → Int
  | [], pre => leaf pre
  | e :: rest, pre => lsum (choose e) fun k => cntM leaf choose rest (pre ++ [k])
def pw : Nat → Int
  | 0 => 1
  | k + 1 => 3 * pw k
theorem pw_bound {k : Nat} (h : k ≤ 5) : pw k ≤ 243 := by
  match k, h with
  | 0, _ => decide
  | 1, _ => decide
  | 2, _ => decide
  | 3, _ => decide
  | 4, _ => decide
  | 5, _ => decide
theorem pw_pos : ∀ k, 0 < pw k
  | 0 => by decide
  | k + 1 => by simp only [pw]; have := pw_pos k; omega
theorem cntM_bound {leaf : List Int → Int} {choose : Int × Int → List Int} (h : ∀ p, 0 ≤ leaf p ∧ leaf p ≤ 1) (hc : ∀ e, (choose e).length ≤ 3) : ∀ (rest : Es) (pre : List Int), 0 ≤ cntM leaf choose rest pre ∧ cntM leaf choose rest pre ≤ pw rest.length
  | [], pre => h pre
  | e :: rest, pre => by
    have := lsum_bound (hc e) (fun k => cntM_bound h hc rest (pre ++ [k])) (Int.le_of_lt (pw_pos _))
    exact this
theorem imgs_len {hs : Es} (h3 : hs.length ≤ 3) (vs : List Int) (e : Int × Int) : (imgs hs vs e).length ≤ 3 := by
  unfold imgs
  split
  · simp
  · rw [List.length_map]
    have := List.length_filter_le (fun (j : Nat) => fitB hs vs e (j : Int)) (List.range hs.length)
    rw [List.length_range] at this
    omega
theorem drop_get {es : Es} {k : Nat} {e : Int × Int} {rest : Es} (h : es.drop k = e :: rest) : es[k]? = some e ∧ es.drop (k + 1) = rest ∧ es.length = k + 1 + rest.length := by
  have hlt : k < es.length := by
    apply Classical.byContradiction; intro hn
    rw [List.drop_eq_nil_of_le (by omega)] at h; cases h
  rw [List.drop_eq_getElem_cons hlt] at h
  injection h with h1 h2
  refine ⟨by rw [List.getElem?_eq_getElem hlt, h1], h2, ?_⟩
  have : (es.drop (k + 1)).length = rest.length := by rw [h2]
  rw [List.length_drop] at this
  omega
section
variable {n N : Nat} {es hs : Es} (hg : gokB n es = true) (hh : gokB N hs = true) (h5 : es.length ≤ 5) (h3 : hs.length ≤ 3)
include hg hh h5 h3
noncomputable def leafS (n : Nat) (es : Es) (N : Nat) (hs : Es) (vs : List Int) (ks : List Int) : Int := if harmB n es N hs vs ks then 1 else 0
omit hg hh h5 h3 in
theorem leafS_01 (vs ks : List Int) : 0 ≤ leafS n es N hs vs ks ∧ leafS n es N hs vs ks ≤ 1 := by unfold leafS; split <;> omega
omit hh in
def okI (hs : Es) (vs : List Int) (e : Int × Int) (k : Int) : Bool := if k = -1 then decide (at0 vs e.1 = at0 vs e.2) else fitB hs vs e k
noncomputable def leafI (n : Nat) (es : Es) (N : Nat) (hs : Es) (vs : List Int) (ks : List Int) : Int := if harmB n es N hs vs ks && !allEqB vs then 1 else 0
omit hg hh h5 h3 in
theorem leafI_01 (vs ks : List Int) : 0 ≤ leafI n es N hs vs ks ∧ leafI n es N hs vs ks ≤ 1 := by unfold leafI; split <;> omega
/-- the images from a place on -/
def okFrom (hs : Es) (vs : List Int) (e : Int × Int) (i m : Nat) : List Int := ((List.range' i m).filter fun (j : Nat) => okI hs vs e ((j : Int) - 1)).map fun (j : Nat) => (j : Int) - 1
omit hg hh h5 h3 in
theorem okFrom_cons (vs : List Int) (e : Int × Int) (i m : Nat) : okFrom hs vs e i (m + 1) = if okI hs vs e ((i : Int) - 1) then ((i : Int) - 1) :: okFrom hs vs e (i + 1) m else okFrom hs vs e (i + 1) m := by
  unfold okFrom
  rw [List.range'_succ]
  exact filter_map_cons (fun (j : Nat) => okI hs vs e ((j : Int) - 1)) (fun (j : Nat) => (j : Int) - 1) i (List.range' (i + 1) m)
omit hg h5 h3 in
theorem okFrom_imgs (vs : List Int) (e : Int × Int) : okFrom hs vs e 0 (hs.length + 1) = imgs hs vs e := by
  have hho : EOk N hs := (edgesB_spec (by simp only [gokB, Bool.and_eq_true] at hh; exact hh.1.1)).2.2
  rw [okFrom_cons]
  have h0 : ((0 : Nat) : Int) - 1 = -1 := rfl
  have key : ∀ (m i : Nat), okFrom hs vs e (i + 1) m = ((List.range' i m).filter fun (j : Nat) => fitB hs vs e (j : Int)).map fun (j : Nat) => (j : Int) := by
    intro m
    induction m with
    | zero => intro i; rfl
    | succ m ih =>
      intro i
      rw [okFrom_cons, List.range'_succ, ih (i + 1)]
      have e1 : ((i + 1 : Nat) : Int) - 1 = (i : Int) := by omega
      have e2 : okI hs vs e (i : Int) = fitB hs vs e (i : Int) := by unfold okI; rw [if_neg (by omega)]
      rw [e1, e2]
      exact (filter_map_cons (fun (j : Nat) => fitB hs vs e (j : Int)) (fun (j : Nat) => (j : Int)) i (List.range' (i + 1) m)).symm
  rw [h0, key hs.length 0, ← List.range_eq_range']
  unfold imgs
  by_cases hab : at0 vs e.1 = at0 vs e.2
  · rw [if_pos hab]
    have e1 : okI hs vs e (-1) = true := by unfold okI; rw [if_pos rfl]; exact decide_eq_true hab
    rw [if_pos e1]
    have : ((List.range hs.length).filter fun (j : Nat) => fitB hs vs e (j : Int)) = [] := by
      rw [List.filter_eq_nil_iff]
      intro j hj
      have hj := List.mem_range.1 hj
      have hm := hho (edge hs (j : Int)) (by
        rw [← atD_edge, atD_nat]
        have : hs[j]? = some hs[j] := List.getElem?_eq_getElem hj
        rw [getD_of this]; exact List.getElem_mem hj)
      simp only [fitB, Bool.and_eq_true, decide_eq_true_eq, hab]
      intro ⟨c1, c2⟩
      have : min2 (at0 vs e.2) (at0 vs e.2) = max2 (at0 vs e.2) (at0 vs e.2) := by simp [min2, max2]
      omega
    rw [this]; rfl
  · rw [if_neg hab]
    have e1 : okI hs vs e (-1) = false := by unfold okI; rw [if_pos rfl]; exact decide_eq_false hab
    rw [e1]; rfl
theorem impl_edges_spec (vs : List Int) (hv : vs.length = n) : ∀ (rest : Es) (k : Nat) (ks : List Int) (cnt : Int) (fuel : Nat), es.drop k = rest → k ≤ es.length → ks.length = es.length → rest.length < fuel → 0 ≤ cnt → cnt ≤ 1000000 - cntM (leafI n es N hs vs) (imgs hs vs) rest (ks.take k) →
    ∃ ks', impl_CountMorphisms_1_rec fuel ((k : Int), vs, ks, (n : Int), es, (N : Int), hs, cnt, ()) = some ((n : Int), es, (N : Int), hs, cnt + cntM (leafI n es N hs vs) (imgs hs vs) rest (ks.take k), vs, ks', ()) ∧ ks'.length = es.length ∧ ks'.take k = ks.take k
  | [], k, ks, cnt, 0, _, _, _, hf, _, _ => absurd hf (Nat.not_lt_zero _)
  | _ :: _, k, ks, cnt, 0, _, _, _, hf, _, _ => absurd hf (Nat.not_lt_zero _)
  | [], k, ks, cnt, fuel + 1, hd, hk, hkl, hf, h0, hb => by
    have hl : k = es.length := by have := List.drop_eq_nil_iff.1 hd; omega
    subst hl
    have hn := gokB_n hg
    have ht : ks.take es.length = ks := by rw [← hkl, List.take_length]
    rw [ht] at hb ⊢
    refine ⟨ks, ?_, hkl, ht⟩
    simp only [cntM] at hb ⊢
    simp only [impl_CountMorphisms_1_rec, impl_CountMorphisms_1_step, beq_dec]
    rw [cond_pos (by omega), impl_IsHarmonic_spec (n : Int) es (N : Int) hs vs ks (by omega) (by omega) (by omega) (by omega)]
    simp only [Option.bind_some]
    have hne : ∃ a t, vs = a :: t := by
      cases vs with
      | nil => simp at hv; omega
      | cons a t => exact ⟨a, t, rfl⟩
    obtain ⟨a, t, rfl⟩ := hne
    have hl : t.length + 1 = n := hv
    unfold leafI at hb ⊢
    cases hq : harmB (n : Int) es (N : Int) hs (a :: t) ks
    · simp
    · rw [hq] at hb
      simp only [cond_true]
      rw [slices_Min_spec a t (by omega), slices_Max_spec a t (by omega)]
      simp only [Option.bind_some, bne_false_iff]
      by_cases hm : minL a t = maxL a t
      · rw [(minL_maxL a t).1 hm, decide_eq_true hm]
        simp
      · have : allEqB (a :: t) = false := by rw [Bool.eq_false_iff]; exact fun h => hm ((minL_maxL a t).2 h)
        rw [this] at hb ⊢
        rw [decide_eq_false hm]
        simp only [Bool.not_false, Bool.and_self, if_true] at hb
        simp only [Bool.not_false, Bool.and_self, if_true, cond_true]
        rw [w64_of (by omega) (by omega)]
  | e :: rest, k, ks, cnt, fuel + 1, hd, hk, hkl, hf, h0, hb => by
    obtain ⟨g1, g2, g3⟩ := drop_get hd
    have hn := gokB_n hg
    have he : EOk n es := (edgesB_spec (by simp only [gokB, Bool.and_eq_true] at hg; exact hg.1.1)).2.2
    have ho := he e (List.mem_of_getElem? g1)
    have hr : rest.length < fuel := by simp at hf; omega
    have self := fun ks cnt h1 h2 h3 => impl_edges_spec vs hv rest (k + 1) ks cnt fuel g2 (by omega) h1 hr h2 h3
    have hbd : ∀ p : List Int, 0 ≤ cntM (leafI n es N hs vs) (imgs hs vs) rest p := fun p =>
      (cntM_bound (leaf := leafI n es N hs vs) (choose := imgs hs vs) (leafI_01 vs) (imgs_len h3 vs) rest p).1
    -- the loop over the images
    have loop : ∀ (m i : Nat) (ks' : List Int) (c : Int), i + m = hs.length + 1 → ks'.length = es.length → ks'.take k = ks.take k → 0 ≤ c → c ≤ 1000000 - lsum (okFrom hs vs e i m) (fun x => cntM (leafI n es N hs vs) (imgs hs vs) rest (ks.take k ++ [x])) →
        ∃ ks'', loopM (impl_CountMorphisms_1_L14 (impl_CountMorphisms_1_rec fuel)) ((k : Int), (i : Int) - 1, (n : Int), es, (N : Int), hs, c, vs, ks', ()) = some ((n : Int), es, (N : Int), hs, c + lsum (okFrom hs vs e i m) (fun x => cntM (leafI n es N hs vs) (imgs hs vs) rest (ks.take k ++ [x])), vs, ks'', ()) ∧ ks''.length = es.length ∧ ks''.take k = ks.take k := by
      intro m
      induction m with
      | zero =>
        intro i ks' c hi hl ht hc0 hc1
        refine ⟨ks', ?_, hl, ht⟩
        apply loop_out
        simp only [impl_CountMorphisms_1_L14]
        rw [cond_neg (by omega)]
        simp [okFrom, lsum_nil]
      | succ m ih =>
        intro i ks' c hi hl ht hc0 hc1
        have hmem : (edge es (k : Int)) = e := by rw [← atD_edge, atD_nat, getD_of g1]
        rw [okFrom_cons] at hc1 ⊢
        have fin0 : ∀ (x : Bool), x = okI hs vs e ((i : Int) - 1) → ∀ R, impl_CountMorphisms_1_J914 (impl_CountMorphisms_1_rec fuel) ((k : Int), (i : Int) - 1, x, (n : Int), es, (N : Int), hs, c, vs, ks', ()) = R → impl_CountMorphisms_1_L14 (impl_CountMorphisms_1_rec fuel) ((k : Int), (i : Int) - 1, (n : Int), es, (N : Int), hs, c, vs, ks', ()) = R := by
          intro x hx R hR
          rw [← hR, hx]
          simp only [impl_CountMorphisms_1_L14, atD_nat, getD_of g1, beq_dec, atD_at0, atD_edge]
          rw [cond_pos (by omega), chk_pos (by omega), chk_pos (by omega), chk_pos (by omega), chk_pos (by omega)]
          by_cases c1 : (i : Int) - 1 = -1
          · rw [decide_eq_true c1, decide_eq_false (show ¬ (i : Int) - 1 ≥ 0 by omega)]
            simp only [cond_true, cond_false]
            unfold okI
            rw [if_pos c1]
            by_cases q : at0 vs e.1 = at0 vs e.2
            · simp only [q, decide_true, cond_true, joinB_inl]
            · simp only [q, decide_false, cond_false, joinB_inl]
          · rw [decide_eq_false c1, decide_eq_true (show (i : Int) - 1 ≥ 0 by omega)]
            simp only [cond_true, cond_false]
            rw [chk_pos (by omega)]
            unfold okI
            rw [if_neg c1]
            rfl
        by_cases hok : okI hs vs e ((i : Int) - 1) = true
        · rw [if_pos hok, lsum_cons] at hc1
          rw [if_pos hok, lsum_cons]
          have htk : (ks'.set k ((i : Int) - 1)).take (k + 1) = ks.take k ++ [(i : Int) - 1] := by
            rw [List.take_add_one, ← ht]
            congr 1
            · rw [List.take_set_of_le (by omega)]
            · rw [List.getElem?_set_self (by omega)]; rfl
          have hrest := lsum_nonneg (f := fun x => cntM (leafI n es N hs vs) (imgs hs vs) rest (ks.take k ++ [x])) (fun x => hbd _) (okFrom hs vs e (i + 1) m)
          have hthis := hbd (ks.take k ++ [(i : Int) - 1])
          obtain ⟨ks1, e1, l1, t1⟩ := self (ks'.set k ((i : Int) - 1)) c (by rw [List.length_set]; exact hl) hc0 (by rw [htk]; omega)
          rw [htk] at e1 t1
          have t1' : ks1.take k = ks.take k := by
            have := congrArg (List.take k) t1
            rw [List.take_take, Nat.min_eq_left (by omega), List.take_append_of_le_length (by rw [List.length_take]; omega), List.take_take, Nat.min_self] at this
            exact this
          obtain ⟨ks2, e2, l2, t2⟩ := ih (i + 1) ks1 (c + cntM (leafI n es N hs vs) (imgs hs vs) rest (ks.take k ++ [(i : Int) - 1])) (by omega) l1 t1' (by omega) (by omega)
          refine ⟨ks2, ?_, l2, t2⟩
          rw [← Int.add_assoc, ← e2]
          apply loop_in
          refine fin0 true hok.symm _ ?_
          simp only [impl_CountMorphisms_1_J914, cond_true]
          rw [chk_pos (by omega), w64_of (by omega) (by omega), w64_of (by omega) (by omega)]
          rw [show (k : Int) + 1 = ((k + 1 : Nat) : Int) by omega, Int.toNat_natCast, e1]
          simp only [Option.bind_some]
          rw [show (i : Int) - 1 + 1 = ((i + 1 : Nat) : Int) - 1 by omega]
        · rw [if_neg hok] at hc1
          rw [if_neg hok]
          obtain ⟨ks2, e2, l2, t2⟩ := ih (i + 1) ks' c (by omega) hl ht hc0 hc1
          refine ⟨ks2, ?_, l2, t2⟩
          rw [← e2]
          apply loop_in
          refine fin0 false (by simpa using hok) _ ?_
          simp only [impl_CountMorphisms_1_J914, cond_false]
          rw [w64_of (by omega) (by omega), show (i : Int) - 1 + 1 = ((i + 1 : Nat) : Int) - 1 by omega]
    have hL := loop (hs.length + 1) 0 ks cnt (by omega) hkl rfl h0 (by rw [okFrom_imgs hh]; simpa only [cntM] using hb)
    rw [okFrom_imgs hh] at hL
    obtain ⟨ks', e1, l1, t1⟩ := hL
    refine ⟨ks', ?_, l1, t1⟩
    simp only [impl_CountMorphisms_1_rec, impl_CountMorphisms_1_step, beq_dec, cntM]
    rw [cond_neg (by omega)]
    exact e1
end
end Go.Pm.Try

set_option linter.unusedVariables false
set_option linter.unusedSimpArgs false
set_option linter.unusedSectionVars false
namespace Go.Pm.Try
open Go.Pm Go.Pm.Th
def treeS (N : Nat) (F : List Int → Int) : Nat → List Int → Int
  | 0, p => F p
  | m + 1, p => sumV N fun x => treeS N F m (p ++ [x])
theorem treeS_bound {N : Nat} (hN : N ≤ 3) {F : List Int → Int} {B : Int} (hB : 0 ≤ B) (hF : ∀ p, 0 ≤ F p ∧ F p ≤ B) : ∀ (m : Nat) (p : List Int), 0 ≤ treeS N F m p ∧ treeS N F m p ≤ pw m * B
  | 0, p => by simp only [treeS, pw, Int.one_mul]; exact hF p
  | m + 1, p => by
    have ih := fun x => treeS_bound hN hB hF m (p ++ [x])
    simp only [treeS, pw]
    refine ⟨sumV_nonneg N fun v _ _ => (ih v).1, Int.le_trans (sumV_le N fun v _ _ => (ih v).2) ?_⟩
    rw [sumV_const, Int.mul_assoc]
    exact Int.mul_le_mul_of_nonneg_right (by omega) (Int.mul_nonneg (Int.le_of_lt (pw_pos m)) hB)
theorem cntM_zero (choose : Int × Int → List Int) {leaf : List Int → Int} (h : ∀ p, leaf p = 0) : ∀ (rest : Es) (pre : List Int), cntM leaf choose rest pre = 0
  | [], pre => h pre
  | e :: rest, pre => by
    simp only [cntM]
    have : (fun k => cntM leaf choose rest (pre ++ [k])) = fun _ => 0 := funext fun k => cntM_zero choose h rest (pre ++ [k])
    rw [this]
    induction choose e with
    | nil => rfl
    | cons a l ih => rw [lsum_cons, ih]; rfl
/-- the harmonic morphisms over given images of the vertices -/
noncomputable def overV (n : Nat) (es : Es) (N : Nat) (hs : Es) (vs : List Int) : Int := if allEqB vs then 0 else cntM (leafS n es N hs vs) (imgs hs vs) es []
theorem overV_I (n : Nat) (es : Es) (N : Nat) (hs : Es) (vs : List Int) : cntM (leafI n es N hs vs) (imgs hs vs) es [] = overV n es N hs vs := by
  unfold overV
  cases h : allEqB vs
  · have : leafI n es N hs vs = leafS n es N hs vs := funext fun ks => by unfold leafI leafS; rw [h]; simp
    rw [this]; rfl
  · rw [if_pos rfl]
    exact cntM_zero _ (fun p => by unfold leafI; rw [h]; simp) es []
section
variable {n N : Nat} {es hs : Es} (hg : gokB n es = true) (hh : gokB N hs = true) (h5 : es.length ≤ 5) (h3 : hs.length ≤ 3)
include hg hh h5 h3
omit hg hh in
theorem overV_bound (vs : List Int) : 0 ≤ overV n es N hs vs ∧ overV n es N hs vs ≤ 243 := by
  unfold overV
  split
  · omega
  · have h1 := cntM_bound (leaf := leafS n es N hs vs) (choose := imgs hs vs) (leafS_01 vs) (imgs_len h3 vs) es []
    have := pw_bound h5
    omega
omit hg hh h5 h3 in
theorem lsum_range' (G : Int → Int) : ∀ (j x : Nat), lsum ((List.range' x j).map fun (i : Nat) => (i : Int)) G = sumV j (fun k => G ((x : Int) + k)) := by
  intro j
  induction j with
  | zero => intro x; rfl
  | succ j ih =>
    intro x
    rw [List.range'_1_concat, List.map_append, lsum_append, ih]
    simp only [sumV, List.map_cons, List.map_nil, lsum_cons, lsum_nil]
    rw [show ((x + j : Nat) : Int) = (x : Int) + j by omega]
    omega
theorem impl_vertices_spec (h3' : N ≤ 3) : ∀ (m v : Nat) (vs ks : List Int) (cnt : Int) (fuel : Nat), v + m = n → vs.length = n → ks.length = es.length → m < fuel → 0 ≤ cnt → cnt ≤ 1000000 - treeS N (overV n es N hs) m (vs.take v) →
    ∃ vs' ks', impl_CountMorphisms_2_rec fuel ((v : Int), (n : Int), es, vs, ks, (N : Int), hs, cnt, ()) = some ((n : Int), es, (N : Int), hs, cnt + treeS N (overV n es N hs) m (vs.take v), vs', ks', ()) ∧ vs'.length = n ∧ ks'.length = es.length ∧ vs'.take v = vs.take v
  | m, v, vs, ks, cnt, 0, _, _, _, hf, _, _ => absurd hf (Nat.not_lt_zero _)
  | 0, v, vs, ks, cnt, fuel + 1, hv, hvl, hkl, hf, h0, hb => by
    have e : v = n := by omega
    subst e
    have ht : vs.take v = vs := by rw [← hvl, List.take_length]
    rw [ht] at hb ⊢
    simp only [treeS] at hb ⊢
    rw [← overV_I] at hb ⊢
    obtain ⟨ks', e1, l1, _⟩ := impl_edges_spec hg hh h5 h3 vs hvl es 0 ks cnt 64 rfl (by omega) hkl (by omega) h0 (by rw [List.take_zero]; exact hb)
    rw [List.take_zero] at e1
    refine ⟨vs, ks', ?_, hvl, l1, ht⟩
    simp only [impl_CountMorphisms_2_rec, impl_CountMorphisms_2_step, beq_dec]
    rw [cond_pos trivial]
    have e1' : impl_CountMorphisms_1 (0, vs, ks, (v : Int), es, (N : Int), hs, cnt, ()) = _ := e1
    rw [e1']
    rfl
  | m + 1, v, vs, ks, cnt, fuel + 1, hv, hvl, hkl, hf, h0, hb => by
    have hn := gokB_n hg
    have self := fun vs ks cnt h1 h2 h3 h4 => impl_vertices_spec h3' m (v + 1) vs ks cnt fuel (by omega) h1 h2 (by omega) h3 h4
    have hbd : ∀ p : List Int, 0 ≤ treeS N (overV n es N hs) m p := fun p => (treeS_bound h3' (B := 243) (by omega) (fun p => overV_bound h5 h3 p) m p).1
    have loop : ∀ (j x : Nat) (vs' ks' : List Int) (c : Int), x + j = N → vs'.length = n → ks'.length = es.length → vs'.take v = vs.take v → vs'[v]? = some (x : Int) → 0 ≤ c → c ≤ 1000000 - lsum ((List.range' x j).map fun (i : Nat) => (i : Int)) (fun y => treeS N (overV n es N hs) m (vs.take v ++ [y])) →
        ∃ vs'' ks'', loopM (impl_CountMorphisms_2_L14 (impl_CountMorphisms_2_rec fuel)) ((v : Int), (N : Int), hs, (n : Int), es, c, vs', ks', ()) = some ((n : Int), es, (N : Int), hs, c + lsum ((List.range' x j).map fun (i : Nat) => (i : Int)) (fun y => treeS N (overV n es N hs) m (vs.take v ++ [y])), vs'', ks'', ()) ∧ vs''.length = n ∧ ks''.length = es.length ∧ vs''.take v = vs.take v := by
      intro j
      induction j with
      | zero =>
        intro x vs' ks' c hx hl hk ht hget hc0 hc1
        refine ⟨vs', ks', ?_, hl, hk, ht⟩
        apply loop_out
        simp only [impl_CountMorphisms_2_L14, atD_nat, getD_of hget]
        rw [chk_pos (by omega), cond_neg (by omega)]
        simp [lsum_nil]
      | succ j ih =>
        intro x vs' ks' c hx hl hk ht hget hc0 hc1
        rw [List.range'_succ, List.map_cons, lsum_cons] at hc1 ⊢
        have htk : vs'.take (v + 1) = vs.take v ++ [(x : Int)] := by
          rw [List.take_add_one, ht, hget]; rfl
        have hrest := lsum_nonneg (f := fun y => treeS N (overV n es N hs) m (vs.take v ++ [y])) (fun y => hbd _) ((List.range' (x + 1) j).map fun (i : Nat) => (i : Int))
        have hthis := hbd (vs.take v ++ [(x : Int)])
        obtain ⟨vs1, ks1, e1, l1, k1, t1⟩ := self vs' ks' c hl hk hc0 (by rw [htk]; omega)
        rw [htk] at e1 t1
        have t1' : vs1.take v = vs.take v := by
          have := congrArg (List.take v) t1
          rw [List.take_take, Nat.min_eq_left (by omega), List.take_append_of_le_length (by rw [List.length_take]; omega), List.take_take, Nat.min_self] at this
          exact this
        have hget1 : vs1[v]? = some (x : Int) := by
          have : (vs1.take (v + 1))[v]? = (vs.take v ++ [(x : Int)])[v]? := by rw [t1]
          rw [List.getElem?_take_of_lt (by omega), List.getElem?_append_right (by rw [List.length_take]; omega), List.length_take, Nat.min_eq_left (by omega), Nat.sub_self] at this
          exact this
        obtain ⟨vs2, ks2, e2, l2, k2, t2⟩ := ih (x + 1) (vs1.set v ((x + 1 : Nat) : Int)) ks1 (c + treeS N (overV n es N hs) m (vs.take v ++ [(x : Int)])) (by omega) (by rw [List.length_set]; exact l1) k1 (by rw [List.take_set_of_le (by omega)]; exact t1') (by rw [List.getElem?_set_self (by omega)]) (by omega) (by omega)
        refine ⟨vs2, ks2, ?_, l2, k2, t2⟩
        rw [← Int.add_assoc, ← e2]
        apply loop_in
        simp only [impl_CountMorphisms_2_L14, atD_nat, getD_of hget]
        rw [chk_pos (by omega), cond_pos (by omega), w64_of (x := (v : Int) + 1) (by omega) (by omega), show (v : Int) + 1 = ((v + 1 : Nat) : Int) by omega, e1]
        simp only [Option.bind_some, atD_nat, getD_of hget1]
        rw [chk_pos (by omega), chk_pos (by omega), w64_of (by omega) (by omega), Int.toNat_natCast, show (x : Int) + 1 = ((x + 1 : Nat) : Int) by omega]
    have e0 : lsum ((List.range' 0 N).map fun (i : Nat) => (i : Int)) (fun y => treeS N (overV n es N hs) m (vs.take v ++ [y])) = treeS N (overV n es N hs) (m + 1) (vs.take v) := by
      rw [lsum_range']
      simp only [treeS]
      refine sumV_congr N fun k _ _ => ?_
      rw [show ((0 : Nat) : Int) + k = k by omega]
    have hL := loop N 0 (vs.set v 0) ks cnt (by omega) (by rw [List.length_set]; exact hvl) hkl (by rw [List.take_set_of_le (by omega)]) (by rw [List.getElem?_set_self (by omega)]; rfl) h0 (by rw [e0]; exact hb)
    rw [e0] at hL
    obtain ⟨vs', ks', e1, l1, k1, t1⟩ := hL
    refine ⟨vs', ks', ?_, l1, k1, t1⟩
    simp only [impl_CountMorphisms_2_rec, impl_CountMorphisms_2_step, beq_dec]
    rw [cond_neg (by omega), chk_pos (by omega), Int.toNat_natCast]
    exact e1
omit hg hh h5 h3 in
end
end Go.Pm.Try

set_option linter.unusedVariables false
set_option linter.unusedSimpArgs false
set_option linter.unusedSectionVars false
namespace Go.Pm.Try
open Go.Pm Go.Pm.Th
noncomputable def countB (n : Int) (es : Es) (N : Int) (hs : Es) : Bool := gokB n es && (gokB N hs && (!decide (n > 4) && (!decide ((es.length : Int) > 5) && (!decide (N > 3) && !decide ((hs.length : Int) > 3)))))
noncomputable def countM (n : Int) (es : Es) (N : Int) (hs : Es) : Int := if countB n es N hs then treeS N.toNat (overV n.toNat es N.toNat hs) n.toNat [] else -1
theorem countB_spec {n : Int} {es : Es} {N : Int} {hs : Es} (h : countB n es N hs = true) : ∃ (m M : Nat), n = m ∧ N = M ∧ gokB m es = true ∧ gokB M hs = true ∧ m ≤ 4 ∧ 0 < m ∧ es.length ≤ 5 ∧ M ≤ 3 ∧ 0 < M ∧ hs.length ≤ 3 := by
  simp only [countB, Bool.and_eq_true, Bool.not_eq_true', decide_eq_false_iff_not] at h
  obtain ⟨h1, h2, h3, h4, h5, h6⟩ := h
  have := gokB_n h1
  have := gokB_n h2
  refine ⟨n.toNat, N.toNat, by omega, by omega, ?_, ?_, by omega, by omega, by omega, by omega, by omega, by omega⟩
  · rw [Int.toNat_of_nonneg (by omega)]; exact h1
  · rw [Int.toNat_of_nonneg (by omega)]; exact h2
theorem impl_CountMorphisms_spec (n : Int) (es : Es) (N : Int) (hs : Es) (hb : es.length ≤ 8796093022208) (hc : hs.length ≤ 8796093022208) :
    impl_CountMorphisms (n, es, N, hs, ()) = some (countM n es N hs, ()) := by
  simp only [impl_CountMorphisms, impl_GraphOk_spec n es hb, impl_GraphOk_spec N hs hc, Option.bind_some]
  have pre : ∀ (c : Bool), countB n es N hs = !c → impl_CountMorphisms_J12 (c, n, es, N, hs, ()) = some (countM n es N hs, ()) := by
    intro c hcb
    cases c
    · have hcb : countB n es N hs = true := hcb
      unfold countM
      rw [if_pos hcb]
      obtain ⟨m, M, rfl, rfl, hg, hh, h4, h0, h5, h3', h0', h3⟩ := countB_spec hcb
      simp only [Int.toNat_natCast]
      simp only [impl_CountMorphisms_J12, cond_false]
      rw [chk_pos ⟨trivial, by omega, by omega⟩, chk_pos ⟨trivial, by omega, by omega⟩, Int.toNat_natCast, Int.toNat_natCast]
      have hbd := treeS_bound h3' (B := 243) (by omega) (fun p => overV_bound (n := m) (N := M) (es := es) (hs := hs) h5 h3 p) m []
      have hpw := pw_bound (k := m) (by omega)
      obtain ⟨vs', ks', e1, _⟩ := impl_vertices_spec hg hh h5 h3 h3' m 0 (List.replicate m 0) (List.replicate es.length 0) 0 64 (by omega) (by simp) (by simp) (by omega) (Int.le_refl _) (by rw [List.take_zero]; omega)
      rw [List.take_zero, Int.zero_add] at e1
      have e1' : impl_CountMorphisms_2 (0, (m : Int), es, List.replicate m 0, List.replicate es.length 0, (M : Int), hs, 0, ()) = _ := e1
      rw [e1']
      rfl
    · have hcb : countB n es N hs = false := hcb
      unfold countM
      rw [hcb]; rfl
  unfold countB at pre
  cases h1 : gokB n es
  · exact pre true (by rw [h1]; rfl)
  cases h2 : gokB N hs
  · exact pre true (by rw [h1, h2]; rfl)
  rw [h1, h2] at pre
  simp only [Bool.not_true, cond_false, Bool.true_and] at pre ⊢
  cases h3 : decide (n > 4)
  · cases h4 : decide ((es.length : Int) > 5)
    · cases h5 : decide (N > 3)
      · exact pre (decide ((hs.length : Int) > 3)) (by rw [h3, h4, h5]; rfl)
      · exact pre true (by rw [h3, h4, h5]; rfl)
    · exact pre true (by rw [h3, h4]; rfl)
  · exact pre true (by rw [h3]; rfl)
end Go.Pm.Try

set_option linter.unusedVariables false
set_option linter.unusedSimpArgs false
namespace Go.Pm.Try
open Go.Pm Go.Pm.Th
theorem iand_255 (a : Int) : 0 ≤ iand .i64 a 255 ∧ iand .i64 a 255 ≤ 255 := by
  show 0 ≤ IntKind.i64.wrap (((BitVec.ofInt 64 a &&& BitVec.ofInt 64 255 : BitVec 64).toNat : Nat) : Int) ∧ IntKind.i64.wrap (((BitVec.ofInt 64 a &&& BitVec.ofInt 64 255 : BitVec 64).toNat : Nat) : Int) ≤ 255
  have h : (BitVec.ofInt 64 a &&& BitVec.ofInt 64 255 : BitVec 64).toNat ≤ 255 := by
    rw [BitVec.toNat_and]
    exact Nat.le_trans Nat.and_le_right (by decide)
  have := w64_of (x := (((BitVec.ofInt 64 a &&& BitVec.ofInt 64 255 : BitVec 64).toNat : Nat) : Int)) (by omega) (by omega)
  unfold w64 at this
  rw [this]
  omega
structure CurOk (b : List Int) (i : Int) : Prop where
  lo : 0 ≤ i
  hi : i ≤ b.length
  len : b.length ≤ 1048576
theorem spec_l01Byte_spec {b : List Int} {i : Int} (c : CurOk b i) (h : Int) : ∃ x i' h', spec_l01Byte (b, i, h, ()) = some (x, b, i', h', ()) ∧ 0 ≤ x ∧ x ≤ 255 ∧ CurOk b i' := by
  have h1 := c.lo
  have h2 := c.hi
  have h3 := c.len
  simp only [spec_l01Byte]
  rw [chk_pos (by decide), chk_pos (by decide)]
  by_cases hlt : i < (b.length : Int)
  · rw [cond_pos hlt, chk_pos ⟨h1, hlt⟩]
    refine ⟨_, _, _, rfl, (iand_255 _).1, (iand_255 _).2, ?_⟩
    rw [w64_of (by omega) (by omega)]
    exact ⟨by omega, by omega, h3⟩
  · rw [cond_neg hlt]
    exact ⟨_, _, _, rfl, (iand_255 _).1, (iand_255 _).2, c⟩
theorem tmod_range {x n : Int} (hx : 0 ≤ x) (hn : 0 < n) : 0 ≤ x.tmod n ∧ x.tmod n < n := by
  rw [Int.tmod_eq_emod_of_nonneg hx]
  exact ⟨Int.emod_nonneg _ (by omega), Int.emod_lt_of_pos _ hn⟩
theorem spec_l01Below_spec {b : List Int} {i : Int} (c : CurOk b i) (n h : Int) : ∃ x i' h', spec_l01Below (n, b, i, h, ()) = some (x, b, i', h', ()) ∧ 0 ≤ x ∧ (0 < n → x < n) ∧ CurOk b i' := by
  simp only [spec_l01Below]
  by_cases h0 : n ≤ 0
  · rw [cond_pos h0]
    exact ⟨0, i, h, rfl, Int.le_refl _, fun hn => by omega, c⟩
  · rw [cond_neg h0]
    by_cases h1 : n ≤ 256
    · rw [cond_pos h1]
      obtain ⟨x, i', h', e1, e2, e3, e4⟩ := spec_l01Byte_spec c h
      rw [e1]
      simp only [Option.bind_some]
      rw [chk_pos (by omega)]
      have ht := tmod_range e2 (show 0 < n by omega)
      exact ⟨_, _, _, rfl, ht.1, fun _ => ht.2, e4⟩
    · rw [cond_neg h1]
      obtain ⟨x, i1, h1', e1, a1, a2, c1⟩ := spec_l01Byte_spec c h
      obtain ⟨y, i2, h2', e2, b1, b2, c2⟩ := spec_l01Byte_spec c1 h1'
      obtain ⟨z, i3, h3', e3, d1, d2, c3⟩ := spec_l01Byte_spec c2 h2'
      obtain ⟨w, i4, h4', e4, f1, f2, c4⟩ := spec_l01Byte_spec c3 h3'
      rw [e1]
      simp only [Option.bind_some]
      rw [e2]
      simp only [Option.bind_some]
      rw [e3]
      simp only [Option.bind_some]
      rw [e4]
      simp only [Option.bind_some]
      rw [chk_pos (by omega)]
      simp (disch := omega) only [w64_of]
      have ht := tmod_range (x := x * 16777216 + y * 65536 + z * 256 + w) (by omega) (show 0 < n by omega)
      exact ⟨_, _, _, rfl, ht.1, fun _ => ht.2, c4⟩
theorem spec_l01New_spec (b : List Int) (hb : b.length ≤ 1048576) : ∃ h, spec_l01New (b, ()) = some (b, 0, h, ()) ∧ CurOk b 0 := by
  simp only [spec_l01New]
  have key : ∀ (m i : Nat) (h : Int), i + m = b.length → ∃ h', loopM spec_l01New_L58 (b, h, (i : Int), ()) = some (b, 0, h', ()) := by
    intro m
    induction m with
    | zero =>
      intro i h hi
      refine ⟨h, ?_⟩
      apply loop_out
      simp only [spec_l01New_L58]
      rw [cond_neg (by omega)]; rfl
    | succ m ih =>
      intro i h hi
      by_cases h4 : (i : Int) < 4000
      · obtain ⟨h', he⟩ := ih (i + 1) _ (by omega)
        refine ⟨h', ?_⟩
        rw [← he]
        apply loop_in
        simp only [spec_l01New_L58]
        rw [cond_pos (by omega), cond_pos h4, chk_pos (by omega)]
        rw [w64_of (x := (i : Int) + 1) (by omega) (by omega)]
        rfl
      · refine ⟨h, ?_⟩
        apply loop_out
        simp only [spec_l01New_L58]
        rw [cond_pos (by omega), cond_neg h4]; rfl
  obtain ⟨h', he⟩ := key b.length 0 _ (by omega)
  exact ⟨h', he, Int.le_refl _, by omega, hb⟩
theorem spec_l21New_spec (b : List Int) (hb : b.length ≤ 1048576) (n : Nat) (hn : n ≤ 1000) : ∃ i h, spec_l21New (b, (n : Int), ()) = some (b, i, h, ()) ∧ CurOk b i := by
  obtain ⟨h, h1, h2⟩ := spec_l01New_spec b hb
  simp only [spec_l21New, h1, Option.bind_some]
  have key : ∀ (m j : Nat) (i h : Int), j + m = n → CurOk b i → ∃ i' h', loopM spec_l21New_L58 ((n : Int), (j : Int), b, i, h, ()) = some (b, i', h', ()) ∧ CurOk b i' := by
    intro m
    induction m with
    | zero =>
      intro j i h hj c
      refine ⟨i, h, ?_, c⟩
      apply loop_out
      simp only [spec_l21New_L58]
      rw [cond_neg (by omega)]; rfl
    | succ m ih =>
      intro j i h hj c
      obtain ⟨x, i1, h1, e1, _, _, c1⟩ := spec_l01Byte_spec c h
      obtain ⟨i', h', e2, c2⟩ := ih (j + 1) i1 h1 (by omega) c1
      refine ⟨i', h', ?_, c2⟩
      rw [← e2]
      apply loop_in
      simp only [spec_l21New_L58]
      rw [cond_pos (by omega), e1]
      simp only [Option.bind_some]
      rw [w64_of (by omega) (by omega)]
      rfl
  exact key n 0 0 h (by omega) h2
end Go.Pm.Try

set_option linter.unusedVariables false
set_option linter.unusedSimpArgs false
set_option linter.unusedSectionVars false
namespace Go.Pm.Try
open Go.Pm Go.Pm.Th
theorem spec_l01Pick_spec {b : List Int} {i : Int} (c : CurOk b i) (l : List Int) (hl : 0 < l.length) (h : Int) : ∃ x i' h', spec_l01Pick (l, b, i, h, ()) = some (x, b, i', h', ()) ∧ x ∈ l ∧ CurOk b i' := by
  obtain ⟨x, i', h', e1, a1, a2, c1⟩ := spec_l01Below_spec c (l.length : Int) h
  have hx := a2 (by omega)
  obtain ⟨k, rfl⟩ := Int.eq_ofNat_of_zero_le a1
  refine ⟨atD 0 l (k : Int), i', h', ?_, ?_, c1⟩
  · simp only [spec_l01Pick, e1, Option.bind_some]
    rw [chk_pos ⟨a1, hx⟩]
  · have hk : k < l.length := by omega
    rw [atD_nat, List.getD_eq_getElem?_getD, List.getElem?_eq_getElem hk]
    exact List.getElem_mem hk
theorem spec_l04Draw_spec {b : List Int} {i : Int} (c : CurOk b i) (h : Int) (n : Nat) (hn : n ≤ 1000) (es : Es) : ∃ d i' h', spec_l04Draw ((n : Int), es, b, i, h, ()) = some (d, b, i', h', ()) ∧ d.length = n ∧ (∀ x ∈ d, -2 ≤ x ∧ x ≤ 6) ∧ CurOk b i' := by
  have key : ∀ (m v : Nat) (out : List Int) (i h : Int), v + m = n → out.length = v → (∀ x ∈ out, -2 ≤ x ∧ x ≤ 6) → CurOk b i → ∃ d i' h', loopM spec_l04Draw_L58 (out, (v : Int), b, i, h, (n : Int), es, ()) = some (d, b, i', h', ()) ∧ d.length = n ∧ (∀ x ∈ d, -2 ≤ x ∧ x ≤ 6) ∧ CurOk b i' := by
    intro m
    induction m with
    | zero =>
      intro v out i h hv hl ho c
      refine ⟨out, i, h, ?_, by omega, ho, c⟩
      apply loop_out
      simp only [spec_l04Draw_L58]
      rw [cond_neg (by omega)]; rfl
    | succ m ih =>
      intro v out i h hv hl ho c
      obtain ⟨x, i1, h1, e1, a1, a2, c1⟩ := spec_l01Below_spec c 7 h
      have hx := a2 (by omega)
      obtain ⟨y, i2, h2, e2, hy, c2⟩ := spec_l01Pick_spec c1 [0, 1, 2, -1, 3, -2, x] (by simp) h1
      have hy' : -2 ≤ y ∧ y ≤ 6 := by
        simp only [List.mem_cons, List.not_mem_nil, or_false] at hy
        omega
      obtain ⟨d, i', h', e3, r⟩ := ih (v + 1) (out ++ [y]) i2 h2 (by omega) (by simp; omega) (fun z hz => by
        rcases List.mem_append.1 hz with hz | hz
        · exact ho z hz
        · simp at hz; subst hz; exact hy') c2
      refine ⟨d, i', h', ?_, r⟩
      rw [← e3]
      apply loop_in
      simp only [spec_l04Draw_L58]
      rw [cond_pos (by omega), e1]
      simp only [Option.bind_some]
      rw [e2]
      simp only [Option.bind_some]
      rw [chk_pos (by simp; omega), w64_of (by omega) (by omega)]
      rfl
  exact key n 0 [] i h (by omega) rfl (fun x hx => by simp at hx) c
theorem spec_MakeDivisor_spec (b : List Int) (hb : b.length ≤ 1048576) (k : Nat) (hk : k ≤ 1000) (n : Nat) (hn : n ≤ 1000) (es : Es) : ∃ d, spec_MakeDivisor (b, (k : Int), (n : Int), es, ()) = some (d, ()) ∧ d.length = n ∧ (∀ x ∈ d, -2 ≤ x ∧ x ≤ 6) := by
  obtain ⟨i, h, e1, c⟩ := spec_l21New_spec b hb k hk
  obtain ⟨d, i', h', e2, a1, a2, _⟩ := spec_l04Draw_spec c h n hn es
  refine ⟨d, ?_, a1, a2⟩
  simp only [spec_MakeDivisor, e1, Option.bind_some, e2]
theorem divOkB_of {n : Int} {es : Es} {d : List Int} (hg : gokB n es = true) (hl : (d.length : Int) = n) (h : ∀ x ∈ d, -60 ≤ x ∧ x ≤ 60) : divOkB n es d = true := by
  simp only [divOkB, hg, hl, decide_true, Bool.true_and, allInB, List.all_eq_true, decide_eq_true_eq]
  exact h
def horV (es hs : Es) (vs ks : List Int) (v : Int) : Int := (mults (es.zip ks) hs vs v).headD 0
theorem overZ_le (v k : Int) : ∀ (z : Zs) (s : Int), z.foldl (fun s a => s + over1 v k a) s ≤ s + z.length
  | [], s => by simp
  | a :: z, s => by
    have := overZ_le v k z (s + over1 v k a)
    have := over1_01 v k a
    simp only [List.foldl_cons, List.length_cons]
    omega
theorem horV_bound (es hs : Es) (vs ks : List Int) (v : Int) : 0 ≤ horV es hs vs ks v ∧ horV es hs vs ks v ≤ es.length := by
  unfold horV mults
  cases (List.range hs.length).filter (atImg hs vs v) with
  | nil => simp
  | cons j l =>
    refine ⟨overZ_nonneg _ _ _, ?_⟩
    have := overZ_le v (j : Int) (es.zip ks) 0
    have hl : (es.zip ks).length ≤ es.length := by rw [List.length_zip]; omega
    show overZ (es.zip ks) v (j : Int) ≤ _
    unfold overZ
    omega
theorem impl_HorizontalOf_spec (n : Int) (es : Es) (N : Int) (hs : Es) (vs ks : List Int) (v : Int) (hb : es.length ≤ 8796093022208) (hc : hs.length ≤ 8796093022208) (hv : vs.length ≤ 17592186044416) (hk : ks.length ≤ 17592186044416) :
    impl_HorizontalOf (n, es, N, hs, vs, ks, v, ()) = some (if harmB n es N hs vs ks && inB v n then horV es hs vs ks v else -1, ()) := by
  simp only [impl_HorizontalOf, impl_IsHarmonic_spec n es N hs vs ks hb hc hv hk, impl_within_spec, Option.bind_some]
  cases hm : harmB n es N hs vs ks
  · rfl
  have hm' := hm
  simp only [harmB, Bool.and_eq_true] at hm'
  obtain ⟨hg, hh, h1, h2, h3, h4⟩ := morB_len hm'.1
  have hn := gokB_n hg
  have hN := gokB_n hh
  rw [within_vertex hn.1]
  cases hi : inB v n
  · rfl
  have hi' := inB_iff.1 hi
  simp only [Bool.not_true, cond_false, Bool.and_self, if_true]
  rw [impl_multiplicities_spec n es N hs vs ks v h2 (by omega) (by omega) (by omega)]
  simp only [Option.bind_some, horV]
  cases hq : mults (es.zip ks) hs vs v with
  | nil => rfl
  | cons a t =>
    rw [beq_dec, cond_neg (by simp; omega), chk_pos ⟨Int.le_refl _, by simp⟩]
    rfl
def degM (ks : List Int) : Int := ks.foldl (fun s k => s + if k = 0 then 1 else 0) 0
theorem impl_DegreeOfMorphism_spec (n : Int) (es : Es) (N : Int) (hs : Es) (vs ks : List Int) (hb : es.length ≤ 8796093022208) (hc : hs.length ≤ 8796093022208) (hv : vs.length ≤ 17592186044416) (hk : ks.length ≤ 17592186044416) :
    impl_DegreeOfMorphism (n, es, N, hs, vs, ks, ()) = some (if harmB n es N hs vs ks then degM ks else -1, ()) := by
  simp only [impl_DegreeOfMorphism, impl_IsHarmonic_spec n es N hs vs ks hb hc hv hk, Option.bind_some]
  cases hm : harmB n es N hs vs ks
  · rfl
  simp only [Bool.not_true, cond_false, if_true]
  have := loop_fold (f := impl_DegreeOfMorphism_L122) (fun s i => (s, ks, (ks.length : Int), i, ())) (fun (s : Int) k => s + if k = 0 then 1 else 0) (fun i s => 0 ≤ s ∧ s ≤ i) ks ks.length rfl (fun s => (s, ())) 0 ⟨Int.le_refl _, Int.le_refl _⟩ (fun s i a ha hs' => by
    have hi := lt_of_get ha
    refine ⟨?_, by show 0 ≤ s + (if a = 0 then 1 else 0) ∧ s + (if a = 0 then 1 else 0) ≤ ((i + 1 : Nat) : Int); split <;> omega⟩
    simp only [impl_DegreeOfMorphism_L122, atD_nat, getD_of ha, beq_dec]
    rw [cond_pos (by omega), chk_pos (by omega), w64_of (x := (i : Int) + 1) (by omega) (by omega), w64_of (x := s + 1) (by omega) (by omega)]
    by_cases h : a = 0
    · simp [h]
    · simp [h]) (fun s hs' => by
    simp only [impl_DegreeOfMorphism_L122]
    rw [cond_neg (by omega)]; rfl)
  exact this.1
def pushSum (z : List (Int × Int)) (w : Int) : Int := z.foldl (fun s a => s + if a.1 = w then a.2 else 0) 0
def pushF (s : List Int) (a : Int × Int) : List Int := s.set a.1.toNat (at0 s a.1 + a.2)
def pushL (N : Nat) (vs d : List Int) : List Int := (vs.zip d).foldl pushF (List.replicate N 0)
theorem pushSum_add (w : Int) : ∀ (z : List (Int × Int)) (s : Int), z.foldl (fun s a => s + if a.1 = w then a.2 else 0) s = s + pushSum z w
  | [], s => by simp [pushSum]
  | a :: z, s => by
    unfold pushSum
    simp only [List.foldl_cons]
    rw [pushSum_add w z, pushSum_add w z (0 + _)]
    omega
theorem pushSum_cons (w : Int) (a : Int × Int) (z : List (Int × Int)) : pushSum (a :: z) w = (if a.1 = w then a.2 else 0) + pushSum z w := by
  have : pushSum (a :: z) w = z.foldl (fun s a => s + if a.1 = w then a.2 else 0) (0 + if a.1 = w then a.2 else 0) := rfl
  rw [this, pushSum_add]; omega
theorem pushF_len (s : List Int) (a : Int × Int) : (pushF s a).length = s.length := by simp [pushF]
theorem pushF_at (s : List Int) (a : Int × Int) (w : Int) (h0 : 0 ≤ a.1) (h1 : a.1 < s.length) (hw : 0 ≤ w) : at0 (pushF s a) w = at0 s w + if a.1 = w then a.2 else 0 := by
  obtain ⟨x, y⟩ := a
  simp only at h0 h1 ⊢
  obtain ⟨i, rfl⟩ := Int.eq_ofNat_of_zero_le h0
  obtain ⟨j, rfl⟩ := Int.eq_ofNat_of_zero_le hw
  have e : ∀ l : List Int, ∀ k : Nat, at0 l (k : Int) = l.getD k 0 := fun l k => by simp [at0]
  simp only [pushF, e, Int.toNat_natCast]
  by_cases hij : i = j
  · subst hij
    rw [if_pos rfl, List.getD_eq_getElem?_getD, List.getElem?_set_self (by omega)]
    rfl
  · rw [if_neg (by omega), List.getD_eq_getElem?_getD, List.getElem?_set_ne hij, List.getD_eq_getElem?_getD]
    omega
theorem pushFold_at (w : Int) (hw : 0 ≤ w) : ∀ (z : List (Int × Int)) (s : List Int), (∀ a ∈ z, 0 ≤ a.1 ∧ a.1 < s.length) → at0 (z.foldl pushF s) w = at0 s w + pushSum z w ∧ (z.foldl pushF s).length = s.length
  | [], s, _ => by simp [pushSum]
  | a :: z, s, h => by
    simp only [List.foldl_cons]
    have ha := h a (by simp)
    obtain ⟨h1, h2⟩ := pushFold_at w hw z (pushF s a) (fun x hx => by rw [pushF_len]; exact h x (by simp [hx]))
    rw [h1, h2, pushF_at s a w ha.1 ha.2 hw, pushF_len, pushSum_cons]
    exact ⟨by omega, rfl⟩
theorem zip_get2 {vs d : List Int} {i : Nat} {a : Int × Int} (h : (vs.zip d)[i]? = some a) : vs[i]? = some a.1 ∧ d[i]? = some a.2 := by
  rw [List.getElem?_zip_eq_some] at h
  exact h
theorem at0_mem (s : List Int) (v : Int) : at0 s v = 0 ∨ at0 s v ∈ s := by
  unfold at0
  rw [List.getD_eq_getElem?_getD]
  cases h : s[v.toNat]? with
  | none => exact .inl rfl
  | some x => exact .inr (List.mem_of_getElem? h)
theorem impl_PushForward_spec (n : Int) (es : Es) (N : Int) (hs : Es) (vs ks d : List Int) (hb : es.length ≤ 8796093022208) (hc : hs.length ≤ 8796093022208) (hv : vs.length ≤ 17592186044416) (hk : ks.length ≤ 17592186044416) (hd : d.length ≤ 17592186044416) :
    impl_PushForward (n, es, N, hs, vs, ks, d, ()) = some (if harmB n es N hs vs ks && divOkB n es d then (pushL N.toNat vs d, true, ()) else ([], false, ())) := by
  simp only [impl_PushForward, impl_IsHarmonic_spec n es N hs vs ks hb hc hv hk, impl_DivisorOk_spec n es d hb hd, Option.bind_some]
  cases hm : harmB n es N hs vs ks
  · rfl
  cases hdo : divOkB n es d
  · rfl
  have hm' := hm
  simp only [harmB, Bool.and_eq_true] at hm'
  obtain ⟨hg, hh, h1, h2, h3, h4⟩ := morB_len hm'.1
  have hn := gokB_n hg
  have hN := gokB_n hh
  obtain ⟨_, hdl, hdv⟩ := divOkB_len hdo
  obtain ⟨M, rfl⟩ := Int.eq_ofNat_of_zero_le (show 0 ≤ N by omega)
  simp only [Bool.not_true, cond_false, joinB_inl, impl_PushForward_J12, Bool.and_self, if_true, Int.toNat_natCast]
  rw [chk_pos ⟨trivial, by omega, by omega⟩]
  have hzl : (vs.zip d).length = d.length := by rw [List.length_zip]; omega
  have := loop_fold (f := impl_PushForward_L122) (fun s i => (s, d, (d.length : Int), i, vs, ks, ())) pushF (fun i s => s.length = M ∧ ∀ x ∈ s, -60 * (i : Int) ≤ x ∧ x ≤ 60 * (i : Int)) (vs.zip d) d.length hzl.symm (fun s => (s, true, ())) (List.replicate M 0) ⟨by simp, fun x hx => by rw [List.eq_of_mem_replicate hx]; omega⟩ (fun s i a ha hs' => by
    obtain ⟨g1, g2⟩ := zip_get2 ha
    have hi := lt_of_get g2
    have r1 := h3 a.1 (List.mem_of_getElem? g1)
    have r2 := hdv a.2 (List.mem_of_getElem? g2)
    obtain ⟨s1, s2⟩ := hs'
    have r3 : -60 * (i : Int) ≤ at0 s a.1 ∧ at0 s a.1 ≤ 60 * (i : Int) := by
      rcases at0_mem s a.1 with h | h
      · rw [h]; omega
      · exact s2 _ h
    refine ⟨?_, by rw [pushF_len]; exact s1, fun x hx => ?_⟩
    · have hl : (vs.length : Int) = n := h1
      simp only [impl_PushForward_L122, atD_nat, getD_of g1, getD_of g2, atD_at0]
      rw [cond_pos (by omega), chk_pos (by omega), chk_pos (by omega), chk_pos (by omega), chk_pos (by omega), w64_of (x := (i : Int) + 1) (by omega) (by omega), w64_of (x := at0 s a.1 + a.2) (by omega) (by omega)]
      rfl
    · unfold pushF at hx
      rcases List.mem_or_eq_of_mem_set hx with hx | hx
      · have := s2 x hx; omega
      · subst hx; omega) (fun s hs' => by
    simp only [impl_PushForward_L122]
    rw [cond_neg (by omega)]; rfl)
  exact this.1
def pullL (es hs : Es) (vs ks d : List Int) : List Int := (List.range vs.length).map fun (v : Nat) => horV es hs vs ks (v : Int) * at0 d (at0 vs (v : Int))
theorem map_range_snoc (f : Nat → Int) (i : Nat) : (List.range i).map f ++ [f i] = (List.range (i + 1)).map f := by
  rw [List.range_succ, List.map_append]; rfl
theorem mul_small {a b A B : Int} (ha : 0 ≤ a ∧ a ≤ A) (hb : -B ≤ b ∧ b ≤ B) (hA : 0 ≤ A) (hB : 0 ≤ B) : -(A * B) ≤ a * b ∧ a * b ≤ A * B := by
  have h1 : a * b ≤ a * B := Int.mul_le_mul_of_nonneg_left hb.2 ha.1
  have h2 : a * B ≤ A * B := Int.mul_le_mul_of_nonneg_right ha.2 hB
  have h3 : a * (-B) ≤ a * b := Int.mul_le_mul_of_nonneg_left hb.1 ha.1
  rw [Int.mul_neg] at h3
  omega
theorem impl_PullBack_spec (n : Int) (es : Es) (N : Int) (hs : Es) (vs ks d : List Int) (hb : es.length ≤ 8796093022208) (hc : hs.length ≤ 8796093022208) (hv : vs.length ≤ 17592186044416) (hk : ks.length ≤ 17592186044416) (hd : d.length ≤ 17592186044416) :
    impl_PullBack (n, es, N, hs, vs, ks, d, ()) = some (if harmB n es N hs vs ks && divOkB N hs d then (pullL es hs vs ks d, true, ()) else ([], false, ())) := by
  simp only [impl_PullBack, impl_IsHarmonic_spec n es N hs vs ks hb hc hv hk, impl_DivisorOk_spec N hs d hc hd, Option.bind_some]
  cases hm : harmB n es N hs vs ks
  · rfl
  cases hdo : divOkB N hs d
  · rfl
  have hm' := hm
  simp only [harmB, Bool.and_eq_true] at hm'
  obtain ⟨hg, hh, h1, h2, h3, h4⟩ := morB_len hm'.1
  have hn := gokB_n hg
  have hN := gokB_n hh
  obtain ⟨_, hdl, hdv⟩ := divOkB_len hdo
  simp only [Bool.not_true, cond_false, joinB_inl, impl_PullBack_J12, Bool.and_self, if_true]
  have := loop_all (f := impl_PullBack_L122) (fun i => (d, (List.range i).map fun (v : Nat) => horV es hs vs ks (v : Int) * at0 d (at0 vs (v : Int)), vs, (vs.length : Int), (i : Int), n, es, N, hs, vs, ks, ())) vs.length (r := (pullL es hs vs ks d, true, ())) (fun i hi => by
    have hg' : vs[i]? = some vs[i] := List.getElem?_eq_getElem hi
    have ea : at0 vs (i : Int) = vs[i] := by rw [← atD_at0, atD_nat, getD_of hg']
    have r1 := h3 _ (List.getElem_mem hi)
    have r2 := horV_bound es hs vs ks (i : Int)
    have r3 : -60 ≤ at0 d (at0 vs (i : Int)) ∧ at0 d (at0 vs (i : Int)) ≤ 60 := by
      rcases at0_mem d (at0 vs (i : Int)) with h | h
      · rw [h]; omega
      · exact hdv _ h
    have r4 := mul_small (A := 12) (B := 60) (show 0 ≤ horV es hs vs ks (i : Int) ∧ horV es hs vs ks (i : Int) ≤ 12 by omega) r3 (by omega) (by omega)
    simp only [impl_PullBack_L122, impl_HorizontalOf_spec n es N hs vs ks (i : Int) hb hc hv hk, Option.bind_some, atD_at0]
    rw [hm, inB_iff.2 (show 0 ≤ (i : Int) ∧ (i : Int) < n by omega), cond_pos (by omega), chk_pos (by omega)]
    simp only [Bool.and_self, if_true]
    rw [chk_pos (by rw [ea]; omega), chk_pos (by simp; omega), w64_of (x := horV es hs vs ks (i : Int) * at0 d (at0 vs (i : Int))) (by omega) (by omega), w64_of (x := (i : Int) + 1) (by omega) (by omega)]
    rw [map_range_snoc (fun (v : Nat) => horV es hs vs ks (v : Int) * at0 d (at0 vs (v : Int)))]
    rfl) (by
    simp only [impl_PullBack_L122]
    rw [cond_neg (by omega)]; rfl)
  exact this
theorem laws_same_refl (d : List Int) (hd : d.length ≤ 17592186044416) : laws_same (d, d, ()) = some (true, ()) := by
  simp only [laws_same]
  rw [beq_ne]
  simp only [cond_false]
  have := loop_forall (f := laws_same_L58) (fun i => (d, d, (d.length : Int), i, ())) (fun _ => true) d (false, ()) (true, ()) (fun i a ha => by
    have hi := lt_of_get ha
    simp only [laws_same_L58, atD_nat, getD_of ha, beq_ne]
    rw [cond_pos (by omega), chk_pos (by omega), chk_pos (by omega), w64_of (by omega) (by omega)]
    rfl) (by
    simp only [laws_same_L58]
    rw [cond_neg (by omega)]; rfl)
  have this' : loopM laws_same_L58 (d, d, (d.length : Int), 0, ()) = _ := this
  rw [this']
  have : (d.all fun _ => true) = true := by simp
  rw [this]; rfl
end Go.Pm.Try

set_option linter.unusedVariables false
set_option linter.unusedSimpArgs false
namespace Go.Pm.Try
open Go.Pm Go.Pm.Th
theorem foldl_add {α : Type} (f : α → Int) (l : List α) : ∀ s : Int, l.foldl (fun s a => s + f a) s = s + l.foldl (fun s a => s + f a) 0 := by
  induction l with
  | nil => simp
  | cons a l ih => intro s; simp only [List.foldl_cons]; rw [ih (s + f a), ih (0 + f a)]; omega
theorem foldl_mult (a b : Int) : ∀ es : Es, es.foldl (fun s e => s + multE a b e) 0 = mult es a b
  | [] => rfl
  | e :: es => by simp only [List.foldl_cons, mult]; rw [foldl_add, foldl_mult a b es]; omega
theorem l02Vert_spec (n : Int) (es : Es) (v : Int) : spec_l02Vert (n, es, v, ()) = some (inB v n, ()) := by
  simp only [spec_l02Vert, inB]
  by_cases h : v ≥ 0
  · rw [cond_pos h]; simp [show 0 ≤ v from h]
  · rw [cond_neg h]; simp [show ¬ 0 ≤ v from h]
theorem spec_Multiplicity_spec (n : Int) (es : Es) (a b : Int) (he : ∀ e ∈ es, e.1 < e.2) (hb : es.length ≤ 1000000) : spec_Multiplicity (n, es, a, b, ()) = some (if inB a n && inB b n && !decide (a = b) then mult es a b else 0, ()) := by
  simp only [spec_Multiplicity, l02Vert_spec, Option.bind_some, beq_dec]
  cases inB a n
  · rfl
  · cases inB b n
    · rfl
    · by_cases hab : a = b
      · simp [hab, spec_Multiplicity_J28]
      · simp only [hab, decide_false, Bool.not_true, cond_false, joinB_inl, spec_Multiplicity_J28, Bool.and_self, Bool.not_false, if_true]
        have := loop_fold (f := spec_Multiplicity_L122) (fun s i => (a, b, s, es, (es.length : Int), i, ())) (fun (s : Int) e => s + multE a b e) (fun i s => 0 ≤ s ∧ s ≤ i) es es.length rfl (fun s => (s, ())) 0 ⟨Int.le_refl _, Int.le_refl _⟩ (fun s i e hi hs => by
          have hlt := lt_of_get hi
          have hne := he e (List.mem_of_getElem? hi)
          refine ⟨?_, ?_⟩
          · simp only [spec_Multiplicity_L122]
            simp (disch := omega) only [cond_pos, chk_pos, w64_of, atD_nat, getD_of hi, beq_dec]
            unfold multE
            by_cases h1 : e.1 = min2 a b
            · by_cases h2 : e.2 = max2 a b
              · have hc : (e.1 = a ∧ e.2 = b) ∨ (e.1 = b ∧ e.2 = a) := by
                  unfold min2 at h1; unfold max2 at h2
                  split at h1 <;> split at h2 <;> omega
                rw [if_pos hc, decide_eq_true h1, decide_eq_true h2]; simp
              · have hc : ¬ ((e.1 = a ∧ e.2 = b) ∨ (e.1 = b ∧ e.2 = a)) := by
                  unfold min2 at h1; unfold max2 at h2
                  split at h1 <;> split at h2 <;> omega
                rw [if_neg hc, decide_eq_true h1, decide_eq_false h2]; simp
            · have hc : ¬ ((e.1 = a ∧ e.2 = b) ∨ (e.1 = b ∧ e.2 = a)) := by
                unfold min2 at h1
                split at h1 <;> omega
              rw [if_neg hc, decide_eq_false h1]; simp
          · unfold multE; split <;> omega) (fun s hs => by
          simp only [spec_Multiplicity_L122]
          simp (disch := omega) only [cond_neg, Option.map_some])
        rw [this.1, foldl_mult]
theorem sortedB_of {es : Es} (h : Srt es) : sortedB es = true := by
  simp only [sortedB, List.all_eq_true, List.mem_range]
  intro i hi
  have := List.pairwise_iff_getElem.1 h i (i + 1) (by omega) (by omega) (by omega)
  rw [List.getD_eq_getElem?_getD, List.getD_eq_getElem?_getD, List.getElem?_eq_getElem (by omega), List.getElem?_eq_getElem (by omega)]
  simpa using this
theorem gokB_of {n : Nat} {es : Es} (h1 : 1 ≤ n ∧ n ≤ 6) (h2 : es.length ≤ 12) (h3 : EOk n es) (h4 : Srt es) (h5 : Conn n es) : gokB n es = true := by
  simp only [gokB, edgesB, Bool.and_eq_true, decide_eq_true_eq, List.all_eq_true, connB]
  exact ⟨⟨⟨⟨by omega, h2⟩, h3⟩, sortedB_of h4⟩, h5⟩
/-- the edge put in -/
def putS (e : Int × Int) (s : Bool × Es) (x : Int × Int) : Bool × Es := if !s.1 && ltB e x then (true, s.2 ++ [e] ++ [x]) else (s.1, s.2 ++ [x])
theorem put_done (e : Int × Int) : ∀ (es out : Es), es.foldl (putS e) (true, out) = (true, out ++ es)
  | [], out => by simp
  | x :: es, out => by
    simp only [List.foldl_cons]
    rw [show putS e (true, out) x = (true, out ++ [x]) by simp [putS], put_done e es]
    simp
def putF (e : Int × Int) (s : Bool × Es) : Es := cond s.1 s.2 (s.2 ++ [e])
theorem put_ins (e : Int × Int) : ∀ (es out : Es), putF e (es.foldl (putS e) (false, out)) = out ++ insE e es
  | [], out => by simp [insE, putF]
  | x :: es, out => by
    simp only [List.foldl_cons]
    by_cases h : ltB e x = true
    · rw [show putS e (false, out) x = (true, out ++ [e] ++ [x]) by simp [putS, h], put_done]
      simp [insE, h, putF]
    · rw [show putS e (false, out) x = (false, out ++ [x]) by simp [putS, h], put_ins e es]
      simp [insE, h]
theorem spec_AddEdge_spec {n : Nat} {es : Es} (hg : gokB n es = true) {a b : Int} (ha : 0 ≤ a ∧ a < n) (hb : 0 ≤ b ∧ b < n) : spec_AddEdge ((n : Int), es, a, b, ()) = some (if a = b ∨ es.length = 12 then (0, [], false, ()) else ((n : Int), insE (min2 a b, max2 a b) es, true, ())) := by
  obtain ⟨hn, hl⟩ := gokB_n hg
  simp only [spec_AddEdge, spec_GraphOk_spec (n : Int) es (by omega), hg, spec_l01In_spec, Option.bind_some, Bool.not_true, cond_false, beq_dec]
  rw [within_vertex hn, within_vertex hn, inB_iff.2 ha, inB_iff.2 hb]
  simp only [Bool.not_true, cond_false]
  by_cases hab : a = b
  · simp [hab, spec_AddEdge_J12]
  · by_cases h12 : es.length = 12
    · have : (es.length : Int) = 12 := by omega
      simp only [hab, this, decide_false, decide_true, cond_false, joinB_inl, spec_AddEdge_J12, cond_true]
      rw [if_pos (.inr h12)]
    · have h12' : ¬ (es.length : Int) = 12 := by omega
      simp only [hab, h12', decide_false, cond_false, joinB_inl, spec_AddEdge_J12]
      rw [if_neg (show ¬ (False ∨ es.length = 12) from fun h => h.elim id h12)]
      have := loop_fold (f := spec_AddEdge_L506) (fun (s : Bool × Es) i => (s.1, es, (es.length : Int), i, 0, min2 a b, max2 a b, (n : Int), s.2, ())) (putS (min2 a b, max2 a b)) (fun i s => s.2.length ≤ i + 1 ∧ (s.1 = false → s.2.length ≤ i)) es es.length rfl (fun s => ((n : Int), putF (min2 a b, max2 a b) s, true, ())) (false, []) ⟨by simp, fun _ => by simp⟩ (fun s i x hi hs => by
        have hlt := lt_of_get hi
        obtain ⟨hs, hsf⟩ := hs
        refine ⟨?_, by
          unfold putS
          cases hs1 : s.1
          · have := hsf hs1
            cases ltB (min2 a b, max2 a b) x <;> simp <;> omega
          · simp; omega⟩
        have fin : spec_AddEdge_J129636 (s.1, es, (es.length : Int), (i : Int), !s.1 && ltB (min2 a b, max2 a b) x, 0, min2 a b, max2 a b, (n : Int), s.2, x.1, x.2, ()) = some (.inl ((putS (min2 a b, max2 a b) s x).1, es, (es.length : Int), ((i + 1 : Nat) : Int), 0, min2 a b, max2 a b, (n : Int), (putS (min2 a b, max2 a b) s x).2, ())) := by
          simp only [spec_AddEdge_J129636, putS]
          have hs2 : (!s.1 && ltB (min2 a b, max2 a b) x) = true → s.2.length ≤ i := fun h => hsf (by cases hh : s.1 <;> simp_all)
          cases hc : (!s.1 && ltB (min2 a b, max2 a b) x)
          · simp (disch := omega) only [cond_false, chk_pos, w64_of, List.length_singleton, Prod.eta]
            simp
          · have hs2 := hs2 hc
            simp (disch := omega) only [cond_true, chk_pos, w64_of, List.length_singleton, List.length_append, Prod.eta]
            simp
        simp only [spec_AddEdge_L506]
        simp (disch := omega) only [cond_pos, chk_pos, atD_nat, getD_of hi, beq_dec]
        cases h1 : s.1
        · rw [h1] at fin
          by_cases c1 : x.1 > min2 a b
          · have : ltB (min2 a b, max2 a b) x = true := ltB_iff.2 (.inl c1)
            rw [this] at fin
            simp only [Bool.not_false, cond_true]
            rw [cond_pos c1]
            simpa using fin
          · simp only [Bool.not_false, cond_true]
            rw [cond_neg c1]
            by_cases c2 : x.1 = min2 a b
            · have : ltB (min2 a b, max2 a b) x = decide (x.2 > max2 a b) := by
                rw [Bool.eq_iff_iff, ltB_iff, decide_eq_true_eq]
                show min2 a b < x.1 ∨ (min2 a b = x.1 ∧ max2 a b < x.2) ↔ _
                omega
              rw [this] at fin
              rw [decide_eq_true c2]
              simpa using fin
            · have : ltB (min2 a b, max2 a b) x = false := by
                rw [ltB_false]
                show ¬ (min2 a b < x.1 ∨ (min2 a b = x.1 ∧ max2 a b < x.2))
                omega
              rw [this] at fin
              rw [decide_eq_false c2]
              simpa using fin
        · rw [h1] at fin
          simpa using fin) (fun s hs => by
        obtain ⟨hs, hsf⟩ := hs
        simp only [spec_AddEdge_L506]
        rw [cond_neg (by omega)]
        unfold putF
        cases h1 : s.1
        · simp (disch := omega) only [Bool.not_false, cond_true, chk_pos, List.length_singleton, Option.map_some]
          rfl
        · rfl)
      have h1 := this.1
      have h2 := put_ins (min2 a b, max2 a b) es []
      rw [List.nil_append] at h2
      rw [← h2]
      exact h1
end Go.Pm.Try

set_option linter.unusedVariables false
set_option linter.unusedSimpArgs false
namespace Go.Pm.Try
open Go.Pm Go.Pm.Th
/-- a tree on the first vertices, an edge for each but the first -/
structure Tr (v : Nat) (es : Es) : Prop where
  len : es.length + 1 = v
  ok : ∀ e ∈ es, 0 ≤ e.1 ∧ e.1 < e.2 ∧ e.2 < v
  conn : ∀ w : Int, 0 ≤ w → w < v → Rch es 0 w
theorem Tr.step {v : Nat} {es : Es} (h : Tr v es) {x : Int} (h0 : 0 ≤ x) (hx : x < v) : Tr (v + 1) (es ++ [(x, (v : Int))]) := by
  have hsub : ∀ e ∈ es, e ∈ es ++ [(x, (v : Int))] := fun e he => List.mem_append_left _ he
  refine ⟨by simp [h.len], fun e he => ?_, fun w h1 h2 => ?_⟩
  · rcases List.mem_append.1 he with he | he
    · have := h.ok e he; omega
    · simp at he; subst he; exact ⟨h0, hx, by show (v : Int) < ((v + 1 : Nat) : Int); omega⟩
  · by_cases e : w = v
    · subst e
      refine (rch_mono hsub (h.conn x h0 hx)).step ⟨(x, (v : Int)), by simp, .inl ⟨rfl, rfl⟩⟩
    · exact rch_mono hsub (h.conn w h1 (by omega))
theorem draw_tree {b : List Int} (n : Nat) (hn : n ≤ 6) (q : Int) : ∀ (m v : Nat) (i h g : Int) (es : Es), v + m = n → 1 ≤ v → CurOk b i → Tr v es → ∃ i' h' g' es', loopM spec_l02Draw_L122 ((n : Int), (v : Int), b, i, h, q, g, es, ()) = some (.inl ((n : Int), b, i', h', q, g', es', ())) ∧ CurOk b i' ∧ Tr n es' ∧ (g = v → g' = n)
  | 0, v, i, h, g, es, hv, h1, c, ht => by
    have e : v = n := by omega
    subst e
    refine ⟨i, h, g, es, ?_, c, ht, fun h => h⟩
    apply loop_out
    simp only [spec_l02Draw_L122]
    rw [cond_neg (by omega)]; rfl
  | m + 1, v, i, h, g, es, hv, h1, c, ht => by
    obtain ⟨x, i1, h1', e1, a1, a2, c1⟩ := spec_l01Below_spec c (v : Int) h
    have hl := ht.len
    obtain ⟨i', h', g', es', e2, c2, t2, hg⟩ := draw_tree n hn q m (v + 1) i1 h1' ((v + 1 : Nat) : Int) (es ++ [(x, (v : Int))]) (by omega) (by omega) c1 (ht.step a1 (a2 (by omega)))
    refine ⟨i', h', g', es', ?_, c2, t2, fun _ => hg rfl⟩
    rw [← e2]
    apply loop_in
    simp only [spec_l02Draw_L122]
    rw [cond_pos (by omega), e1]
    simp only [Option.bind_some]
    rw [chk_pos (by simp; omega), w64_of (by omega) (by omega)]
    rfl
theorem draw_copy (n a c : Nat) (q : Int) (b : List Int) (i h g0 : Int) (es : Es) (g1 : Int) : ∀ (k : Nat) (out : Es), k ≤ 1000 → out.length ≤ 1000000 - k → c ≤ 1000 →
    loopM spec_l02Draw_L2073746 ((n : Int), (a : Int), (c : Int), (k : Int), b, i, h, q, g0, es, g1, out, ()) = some (.inl ((n : Int), (a : Int), ((c + 1 : Nat) : Int), b, i, h, q, g0, es, g1, out ++ List.replicate k ((a : Int), (c : Int)), ()))
  | 0, out, hk, ho, hc => by
    apply loop_out
    simp only [spec_l02Draw_L2073746]
    rw [cond_neg (by omega), w64_of (by omega) (by omega)]
    simp
  | k + 1, out, hk, ho, hc => by
    rw [loop_in (s' := ((n : Int), (a : Int), (c : Int), (k : Int), b, i, h, q, g0, es, g1, out ++ [((a : Int), (c : Int))], ()))]
    · rw [draw_copy n a c q b i h g0 es g1 k _ (by omega) (by simp; omega) hc]
      simp [List.replicate_succ]
    · simp only [spec_l02Draw_L2073746]
      rw [cond_pos (by omega), chk_pos (by simp; omega), w64_of (by omega) (by omega)]
      rw [show ((k + 1 : Nat) : Int) - 1 = (k : Int) by omega]
theorem draw_row (n a : Nat) (hn : n ≤ 6) (q : Int) (b : List Int) (i h : Int) (es : Es) (g1 : Int) (he : EOk n es) (hb : es.length ≤ 100) (ha : a < n) : ∀ (m c : Nat) (out : Es), c + m = n → a < c → out.length ≤ 100000 - 200 * m →
    loopM spec_l02Draw_L32402 ((n : Int), (a : Int), (c : Int), b, i, h, q, (n : Int), es, g1, out, ()) = some (.inl ((n : Int), ((a + 1 : Nat) : Int), b, i, h, q, (n : Int), es, g1, out ++ (List.range' c m).flatMap fun (c : Nat) => List.replicate (mult es a c).toNat ((a : Int), (c : Int)), ()))
  | 0, c, out, hc, hac, ho => by
    apply loop_out
    simp only [spec_l02Draw_L32402]
    rw [cond_neg (by omega), w64_of (by omega) (by omega)]
    simp
  | m + 1, c, out, hc, hac, ho => by
    have hm0 := mult_nonneg es a c
    have hm1 := mult_le es a c
    have ecast : (((mult es a c).toNat : Nat) : Int) = mult es a c := by omega
    have hcopy := draw_copy n a c q b i h (n : Int) es g1 (mult es a c).toNat out (by omega) (by omega) (by omega)
    rw [ecast] at hcopy
    rw [loop_in (s' := ((n : Int), (a : Int), ((c + 1 : Nat) : Int), b, i, h, q, (n : Int), es, g1, out ++ List.replicate (mult es a c).toNat ((a : Int), (c : Int)), ()))]
    · rw [draw_row n a hn q b i h es g1 he hb ha m (c + 1) _ (by omega) (by omega) (by simp; omega)]
      simp [List.range'_succ]
    · simp only [spec_l02Draw_L32402]
      rw [cond_pos (by omega), spec_Multiplicity_spec (n : Int) es (a : Int) (c : Int) (fun e h => (he e h).2.1) (by omega), inB_iff.2 (show 0 ≤ (a : Int) ∧ (a : Int) < n by omega), inB_iff.2 (show 0 ≤ (c : Int) ∧ (c : Int) < n by omega), decide_eq_false (show ¬ (a : Int) = (c : Int) by omega)]
      simp only [Bool.and_self, Bool.not_false, if_true, Option.bind_some]
      exact hcopy
theorem rowC_bound {n a : Nat} {es : Es} (hn : n ≤ 6) (hb : es.length ≤ 100) : (rowC n es a).length ≤ 600 := by
  have key : ∀ (m c : Nat), ((List.range' c m).flatMap fun (c : Nat) => List.replicate (mult es a c).toNat ((a : Int), (c : Int))).length ≤ m * 100 := by
    intro m
    induction m with
    | zero => intro c; simp
    | succ m ih =>
      intro c
      rw [List.range'_succ, List.flatMap_cons, List.length_append, List.length_replicate]
      have := ih (c + 1)
      have := mult_le es a c
      omega
  have := key (n - (a + 1)) (a + 1)
  unfold rowC
  omega
theorem draw_canon (n : Nat) (hn : n ≤ 6) (q : Int) (b : List Int) (i h : Int) (es : Es) (g1 : Int) (he : EOk n es) (hb : es.length ≤ 100) : ∀ (m a : Nat) (out : Es), a + m = n → out.length ≤ 10000 - 700 * m →
    loopM spec_l02Draw_L506 ((n : Int), (a : Int), b, i, h, q, (n : Int), es, g1, out, ()) = some (.inl ((n : Int), b, i, h, q, g1, out ++ (List.range' a m).flatMap (rowC n es), ()))
  | 0, a, out, ha, ho => by
    apply loop_out
    simp only [spec_l02Draw_L506]
    rw [cond_neg (by omega)]
    simp
  | m + 1, a, out, ha, ho => by
    have hr := rowC_bound (a := a) hn hb
    rw [loop_in (s' := ((n : Int), ((a + 1 : Nat) : Int), b, i, h, q, (n : Int), es, g1, out ++ rowC n es a, ()))]
    · rw [draw_canon n hn q b i h es g1 he hb m (a + 1) _ (by omega) (by simp; omega)]
      simp [List.range'_succ]
    · simp only [spec_l02Draw_L506]
      rw [cond_pos (by omega), w64_of (by omega) (by omega)]
      have := draw_row n a hn q b i h es g1 he hb (by omega) (n - (a + 1)) (a + 1) out (by omega) (by omega) (by omega)
      rw [show (a : Int) + 1 = ((a + 1 : Nat) : Int) by omega]
      exact this
/-- edges put in, so many at most -/
theorem draw_more {b : List Int} (n : Nat) (hn : 2 ≤ n ∧ n ≤ 6) (q : Int) (E : Nat) : ∀ (k : Nat) (i h : Int) (es : Es), k ≤ 6 → CurOk b i → EOk n es → Srt es → Conn n es → es.length ≤ 12 → es.length + k ≤ E → ∃ i' h' es', loopM spec_l02Draw_L1018 ((n : Int), (k : Int), b, i, h, q, (n : Int), es, ()) = some ((n : Int), es', b, i', h', ()) ∧ CurOk b i' ∧ EOk n es' ∧ Srt es' ∧ Conn n es' ∧ es'.length ≤ 12 ∧ es'.length ≤ E
  | 0, i, h, es, hk, c, he, hs, hc, hl, hE => by
    refine ⟨i, h, es, ?_, c, he, hs, hc, hl, by omega⟩
    apply loop_out
    simp only [spec_l02Draw_L1018]
    rw [cond_neg (by omega)]; rfl
  | k + 1, i, h, es, hk, c, he, hs, hc, hl, hE => by
    obtain ⟨x, i1, h1, e1, a1, a2, c1⟩ := spec_l01Below_spec c (n : Int) h
    obtain ⟨y, i2, h2, e2, b1, b2, c2⟩ := spec_l01Below_spec c1 ((n : Int) - 1) h1
    have hx := a2 (by omega)
    have hy := b2 (by omega)
    have hg := gokB_of (by omega) hl he hs hc
    have ht := tmod_range (x := x + 1 + y) (n := (n : Int)) (by omega) (by omega)
    have hadd := spec_AddEdge_spec hg ⟨a1, hx⟩ ht
    have ek : ((k + 1 : Nat) : Int) - 1 = (k : Int) := by omega
    by_cases hcond : x = (x + 1 + y).tmod n ∨ es.length = 12
    · rw [if_pos hcond] at hadd
      obtain ⟨i', h', es', e3, r⟩ := draw_more n hn q E k i2 h2 es (by omega) c2 he hs hc hl (by omega)
      refine ⟨i', h', es', ?_, r⟩
      rw [← e3]
      apply loop_in
      simp only [spec_l02Draw_L1018]
      rw [cond_pos (by omega), e1]
      simp only [Option.bind_some]
      rw [w64_of (x := (n : Int) - 1) (by omega) (by omega), e2]
      simp only [Option.bind_some]
      rw [chk_pos (by omega)]
      simp (disch := omega) only [w64_of]
      rw [hadd]
      simp only [Option.bind_some, cond_false, ek]
    · rw [if_neg hcond] at hadd
      have hlo : 0 ≤ min2 x ((x + 1 + y).tmod n) ∧ min2 x ((x + 1 + y).tmod n) < max2 x ((x + 1 + y).tmod n) ∧ max2 x ((x + 1 + y).tmod n) < n := by
        unfold min2 max2
        split <;> split <;> omega
      obtain ⟨i', h', es', e3, r⟩ := draw_more n hn q E k i2 h2 (insE (min2 x ((x + 1 + y).tmod n), max2 x ((x + 1 + y).tmod n)) es) (by omega) c2
        (fun e hm => by
          rcases (insE_mem _ e es).1 hm with rfl | hm
          · exact hlo
          · exact he e hm) (insE_srt _ es hs) (conn_mono (fun e hm => (insE_mem _ e es).2 (.inr hm)) hc) (by rw [insE_len]; omega) (by rw [insE_len]; omega)
      refine ⟨i', h', es', ?_, r⟩
      rw [← e3]
      apply loop_in
      simp only [spec_l02Draw_L1018]
      rw [cond_pos (by omega), e1]
      simp only [Option.bind_some]
      rw [w64_of (x := (n : Int) - 1) (by omega) (by omega), e2]
      simp only [Option.bind_some]
      rw [chk_pos (by omega)]
      simp (disch := omega) only [w64_of]
      rw [hadd]
      simp only [Option.bind_some, cond_true, ek]
/-- a drawn graph -/
structure Drawn (most n : Nat) (es : Es) : Prop where
  two : 2 ≤ n
  le : n ≤ most
  ok : EOk n es
  srt : Srt es
  conn : Conn n es
  len : es.length ≤ n + 3
theorem Drawn.gok {most n : Nat} {es : Es} (h : Drawn most n es) (hm : most ≤ 6) : gokB n es = true := gokB_of (by have := h.two; have := h.le; omega) (by have := h.len; have := h.le; omega) h.ok h.srt h.conn
theorem spec_l02Draw_spec {b : List Int} {i : Int} (c : CurOk b i) (h : Int) (most : Nat) (hm : 2 ≤ most ∧ most ≤ 6) : ∃ (n : Nat) (es : Es) (i' h' : Int), spec_l02Draw ((most : Int), b, i, h, ()) = some ((n : Int), es, b, i', h', ()) ∧ CurOk b i' ∧ Drawn most n es := by
  obtain ⟨x, i1, h1, e1, a1, a2, c1⟩ := spec_l01Below_spec c ((most : Int) - 1) h
  have hx := a2 (by omega)
  obtain ⟨n, hn⟩ : ∃ n : Nat, (n : Int) = 2 + x := ⟨(2 + x).toNat, by omega⟩
  have ht1 : Tr 1 [] := ⟨rfl, fun e he => by simp at he, fun w h1 h2 => by
    have : w = 0 := by omega
    rw [this]; exact .refl⟩
  obtain ⟨i2, h2, g2, es1, e2, c2, t2, hg2⟩ := draw_tree (b := b) n (by omega) 0 (n - 1) 1 i1 h1 1 [] (by omega) (by omega) c1 ht1
  have hg2 : g2 = n := hg2 rfl
  subst hg2
  have hl1 := t2.len
  have hok1 : EOk n es1 := t2.ok
  have e3 := draw_canon n (by omega) 0 b i2 h2 es1 (n : Int) hok1 (by omega) n 0 [] (by omega) (by simp)
  obtain ⟨y, i3, h3, e4, b1, b2, c3⟩ := spec_l01Below_spec c2 5 h2
  have hy := b2 (by omega)
  obtain ⟨k, hk⟩ : ∃ k : Nat, (k : Int) = y := ⟨y.toNat, by omega⟩
  have hcm : ∀ e, e ∈ canon n es1 ↔ e ∈ es1 := fun e => canon_mem hok1
  have hok2 : EOk n (canon n es1) := fun e he => hok1 e ((hcm e).1 he)
  have hcn : Conn n (canon n es1) := conn_mono (fun e he => (hcm e).2 he) t2.conn
  have hlen := canon_len hok1
  obtain ⟨i4, h4, es', e5, c4, r1, r2, r3, r4, r5⟩ := draw_more (b := b) n (by omega) 0 (n + 3) k i3 h3 (canon n es1) (by omega) c3 hok2 (canon_srt n es1) hcn (by omega) (by omega)
  refine ⟨n, es', i4, h4, ?_, c4, ⟨by omega, by omega, r1, r2, r3, r5⟩⟩
  simp only [spec_l02Draw]
  rw [w64_of (by omega) (by omega), e1]
  simp only [Option.bind_some]
  rw [w64_of (by omega) (by omega), ← hn]
  have e2' : loopM spec_l02Draw_L122 ((n : Int), 1, b, i1, h1, 0, 1, ([] : List (Int × Int)), ()) = _ := e2
  rw [e2']
  simp only [joinB_inl, spec_l02Draw_J61]
  have e3' : loopM spec_l02Draw_L506 ((n : Int), 0, b, i2, h2, 0, (n : Int), es1, (n : Int), ([] : List (Int × Int)), ()) = _ := e3
  rw [e3']
  simp only [joinB_inl, spec_l02Draw_J253]
  rw [e4]
  simp only [Option.bind_some]
  rw [← hk, List.nil_append, ← List.range_eq_range']
  exact e5
end Go.Pm.Try

set_option linter.unusedVariables false
set_option linter.unusedSimpArgs false
set_option linter.unusedSectionVars false
namespace Go.Pm.Try
open Go.Pm Go.Pm.Th
def idFrom (o m : Nat) : List Int := (List.range' o m).map fun (i : Nat) => (i : Int)
def idL (n : Nat) : List Int := (List.range n).map fun (i : Nat) => (i : Int)
theorem idL_from (n : Nat) : idL n = idFrom 0 n := by unfold idL idFrom; rw [List.range_eq_range']
theorem idFrom_succ (o m : Nat) : idFrom o (m + 1) = (o : Int) :: idFrom (o + 1) m := by unfold idFrom; rw [List.range'_succ]; rfl
theorem idL_len (n : Nat) : (idL n).length = n := by simp [idL]
theorem idL_get {n i : Nat} (h : i < n) : (idL n)[i]? = some (i : Int) := by
  unfold idL
  rw [List.getElem?_map, List.getElem?_range h]; rfl
theorem idL_at {n : Nat} {v : Int} (h0 : 0 ≤ v) (h : v < n) : at0 (idL n) v = v := by
  obtain ⟨k, rfl⟩ := Int.eq_ofNat_of_zero_le h0
  rw [← atD_at0, atD_nat, getD_of (idL_get (show k < n by omega))]
theorem idL_mem {n : Nat} {x : Int} (h : x ∈ idL n) : 0 ≤ x ∧ x < n := by
  unfold idL at h
  obtain ⟨i, hi, rfl⟩ := List.mem_map.1 h
  have := List.mem_range.1 hi
  omega
theorem ext_at0 {l m : List Int} (hl : l.length = m.length) (h : ∀ w : Nat, w < l.length → at0 l (w : Int) = at0 m (w : Int)) : l = m := by
  apply List.ext_getElem hl
  intro i h1 h2
  have := h i h1
  rw [← atD_at0, ← atD_at0, atD_nat, atD_nat, getD_of (List.getElem?_eq_getElem h1), getD_of (List.getElem?_eq_getElem h2)] at this
  exact this
abbrev atE (e : Int × Int) (v : Int) : Prop := e.1 = v ∨ e.2 = v
theorem over_id (v : Int) (j : Nat) : ∀ (es : Es) (o : Nat) (s : Int), (es.zip (idFrom o es.length)).foldl (fun s a => s + over1 v (j : Int) a) s = s + if o ≤ j ∧ j < o + es.length ∧ atE (edge es ((j - o : Nat) : Int)) v then 1 else 0
  | [], o, s => by simp; omega
  | e :: es, o, s => by
    rw [List.length_cons, idFrom_succ, List.zip_cons_cons, List.foldl_cons, over_id v j es (o + 1)]
    unfold over1
    by_cases hj : o = j
    · subst hj
      rw [if_neg (show ¬ (o + 1 ≤ o ∧ o < o + 1 + es.length ∧ atE (edge es ((o - (o + 1) : Nat) : Int)) v) by omega)]
      have e0 : edge (e :: es) ((o - o : Nat) : Int) = e := by rw [Nat.sub_self]; rfl
      rw [e0]
      by_cases h : atE e v
      · rw [if_pos ⟨h, rfl⟩, if_pos ⟨Nat.le_refl _, by omega, h⟩]; omega
      · rw [if_neg (fun q => h q.1), if_neg (fun q => h q.2.2)]; omega
    · rw [if_neg (fun q => hj (by have := q.2; simp at this; omega))]
      by_cases hlt : o < j
      · have e0 : edge (e :: es) ((j - o : Nat) : Int) = edge es ((j - (o + 1) : Nat) : Int) := by
          obtain ⟨k, hk⟩ : ∃ k, j - o = k + 1 := ⟨j - o - 1, by omega⟩
          have hk2 : j - (o + 1) = k := by omega
          rw [hk, hk2]
          rw [← atD_edge, ← atD_edge, atD_nat, atD_nat]
          simp [List.getD]
        rw [e0]
        by_cases h : atE (edge es ((j - (o + 1) : Nat) : Int)) v
        · by_cases h2 : j < o + 1 + es.length
          · rw [if_pos ⟨by omega, h2, h⟩, if_pos ⟨by omega, by omega, h⟩]; omega
          · rw [if_neg (fun q => h2 q.2.1), if_neg (fun q => h2 (by have := q.2.1; omega))]; omega
        · rw [if_neg (fun q => h q.2.2), if_neg (fun q => h q.2.2)]; omega
      · rw [if_neg (by omega), if_neg (by omega)]; omega
theorem overZ_id (es : Es) (v : Int) (j : Nat) (hj : j < es.length) : overZ (es.zip (idL es.length)) v (j : Int) = if atE (edge es (j : Int)) v then 1 else 0 := by
  unfold overZ
  rw [idL_from, over_id v j es 0 0]
  by_cases h : atE (edge es (j : Int)) v
  · rw [if_pos ⟨by omega, by omega, by rw [Nat.sub_zero]; exact h⟩, if_pos h]; omega
  · rw [if_neg (fun q => h (by have := q.2.2; rw [Nat.sub_zero] at this; exact this)), if_neg h]; omega
theorem mults_id {n : Nat} (es : Es) {v : Int} (h0 : 0 ≤ v) (hv : v < n) : ∀ x ∈ mults (es.zip (idL es.length)) es (idL n) v, x = 1 := by
  intro x hx
  unfold mults at hx
  obtain ⟨j, hj, rfl⟩ := List.mem_map.1 hx
  rw [List.mem_filter] at hj
  have hjl := List.mem_range.1 hj.1
  rw [overZ_id es v j hjl]
  have := hj.2
  simp only [atImg, Bool.or_eq_true, decide_eq_true_eq, idL_at h0 hv] at this
  exact if_pos this
theorem allEqB_const {l : List Int} {c : Int} (h : ∀ x ∈ l, x = c) : allEqB l = true := by
  cases l with
  | nil => rfl
  | cons a t =>
    simp only [allEqB, List.all_eq_true, decide_eq_true_eq]
    intro x hx
    rw [h x (by simp [hx]), h a (by simp)]
theorem zip_id_mem {es : Es} {a : (Int × Int) × Int} (h : a ∈ es.zip (idL es.length)) : ∃ i : Nat, i < es.length ∧ es[i]? = some a.1 ∧ a.2 = (i : Int) := by
  obtain ⟨i, hi⟩ := List.getElem?_of_mem h
  obtain ⟨g1, g2⟩ := zip_get hi
  have hl := lt_of_get g1
  rw [idL_get hl] at g2
  exact ⟨i, hl, g1, by simpa using g2.symm⟩
theorem edge_of {es : Es} {i : Nat} {e : Int × Int} (h : es[i]? = some e) : edge es (i : Int) = e := by rw [← atD_edge, atD_nat, getD_of h]
theorem min2_lt {a b : Int} (h : a < b) : min2 a b = a ∧ max2 a b = b := by unfold min2 max2; rw [if_neg (by omega), if_pos h]; exact ⟨rfl, rfl⟩
section
variable {n : Nat} {es : Es} (hg : gokB n es = true)
include hg
theorem gok_EOk : EOk n es := (edgesB_spec (by simp only [gokB, Bool.and_eq_true] at hg; exact hg.1.1)).2.2
theorem gok_conn : Conn n es := by
  obtain ⟨m, e, g⟩ := gokB_gr hg
  simp only [gokB, Bool.and_eq_true, connB, decide_eq_true_eq] at hg
  exact hg.2
theorem mor_id : morB n es n es (idL n) (idL es.length) = true := by
  have he := gok_EOk hg
  simp only [morB, hg, idL_len, decide_true, Bool.true_and, Bool.and_eq_true, allInB, List.all_eq_true, decide_eq_true_eq]
  refine ⟨fun x hx => by have := idL_mem hx; omega, fun a ha => ?_⟩
  obtain ⟨i, hi, g1, g2⟩ := zip_id_mem ha
  have ho := he a.1 (List.mem_of_getElem? g1)
  unfold edgeMapB
  rw [if_neg (by omega), idL_at (by omega) (by omega), idL_at (by omega) (by omega), g2, edge_of g1]
  have hm := min2_lt ho.2.1
  rw [hm.1, hm.2]
  simp only [decide_true, Bool.and_true, decide_eq_true_eq]
  omega
theorem harm_id : harmB n es n es (idL n) (idL es.length) = true := by
  simp only [harmB, mor_id hg, Bool.true_and, List.all_eq_true, List.mem_range, Int.toNat_natCast]
  intro v hv
  exact allEqB_const (mults_id es (by omega) (by omega))
theorem has_edge (h2 : 2 ≤ n) {v : Int} (h0 : 0 ≤ v) (hv : v < n) : ∃ e ∈ es, atE e v := by
  have hc := gok_conn hg
  obtain ⟨w, hw0, hw, hne⟩ : ∃ w : Int, 0 ≤ w ∧ w < n ∧ w ≠ v := by
    by_cases h : v = 0
    · exact ⟨1, by omega, by omega, by omega⟩
    · exact ⟨0, by omega, by omega, by omega⟩
  obtain ⟨e, he, hcut⟩ := hc.cut (fun x => x = v) ⟨h0, hv⟩ ⟨hw0, hw⟩ rfl hne
  refine ⟨e, he, ?_⟩
  apply Classical.byContradiction
  intro hno
  apply hcut
  constructor
  · intro h; exact absurd (.inl h) hno
  · intro h; exact absurd (.inr h) hno
theorem hor_id (h2 : 2 ≤ n) {v : Int} (h0 : 0 ≤ v) (hv : v < n) : horV es es (idL n) (idL es.length) v = 1 := by
  obtain ⟨e, he, ha⟩ := has_edge hg h2 h0 hv
  obtain ⟨i, hi⟩ := List.getElem?_of_mem he
  have hl := lt_of_get hi
  have hall := mults_id (n := n) es h0 hv
  unfold horV
  have hne : mults (es.zip (idL es.length)) es (idL n) v ≠ [] := by
    intro hnil
    unfold mults at hnil
    rw [List.map_eq_nil_iff, List.filter_eq_nil_iff] at hnil
    apply hnil i (List.mem_range.2 hl)
    simp only [atImg, Bool.or_eq_true, decide_eq_true_eq, idL_at h0 hv, edge_of hi]
    exact ha
  cases hq : mults (es.zip (idL es.length)) es (idL n) v with
  | nil => exact absurd hq hne
  | cons a t => rw [hq] at hall; exact hall a (by simp)
theorem len_pos (h2 : 2 ≤ n) : 0 < es.length := by
  obtain ⟨e, he, _⟩ := has_edge hg h2 (v := 0) (by omega) (by omega)
  exact List.length_pos_of_mem he
end
theorem deg_from (o : Nat) (ho : 0 < o) : ∀ (m : Nat) (o : Nat) (s : Int), 0 < o → (idFrom o m).foldl (fun s k => s + if k = 0 then 1 else 0) s = s
  | 0, o, s, _ => rfl
  | m + 1, o, s, ho => by
    rw [idFrom_succ, List.foldl_cons, if_neg (by omega), deg_from o ho m (o + 1) _ (by omega)]; omega
theorem deg_id {m : Nat} (hm : 0 < m) : degM (idL m) = 1 := by
  obtain ⟨k, rfl⟩ : ∃ k, m = k + 1 := ⟨m - 1, by omega⟩
  unfold degM
  rw [idL_from, idFrom_succ, List.foldl_cons, deg_from 1 (by omega) k 1 _ (by omega)]
  rfl
theorem pushSum_id (w : Nat) : ∀ (d : List Int) (o : Nat), pushSum ((idFrom o d.length).zip d) (w : Int) = if o ≤ w then d.getD (w - o) 0 else 0
  | [], o => by simp [pushSum, idFrom]
  | x :: d, o => by
    rw [List.length_cons, idFrom_succ, List.zip_cons_cons, pushSum_cons, pushSum_id w d (o + 1)]
    by_cases h : o = w
    · subst h
      rw [if_pos rfl, if_neg (by omega), if_pos (Nat.le_refl _), Nat.sub_self]
      simp
    · rw [if_neg (by omega)]
      by_cases h2 : o < w
      · rw [if_pos (by omega), if_pos (by omega), show w - o = (w - (o + 1)) + 1 by omega]
        simp [List.getD]
      · rw [if_neg (by omega), if_neg (by omega)]; omega
theorem push_id {n : Nat} {d : List Int} (hd : d.length = n) : pushL n (idL n) d = d := by
  have hz : ∀ a ∈ (idL n).zip d, 0 ≤ a.1 ∧ a.1 < ((List.replicate n (0 : Int)).length : Int) := fun a ha => by
    have := idL_mem (List.of_mem_zip (show (a.1, a.2) ∈ _ from ha)).1
    rw [List.length_replicate]; exact this
  have hlen : (pushL n (idL n) d).length = n := by
    have := (pushFold_at 0 (Int.le_refl _) ((idL n).zip d) (List.replicate n 0) hz).2
    unfold pushL; rw [this]; simp
  apply ext_at0 (by rw [hlen, hd])
  intro w hw
  rw [hlen] at hw
  unfold pushL
  rw [(pushFold_at (w : Int) (by omega) ((idL n).zip d) (List.replicate n 0) hz).1, idL_from]
  subst hd
  rw [pushSum_id w d 0, if_pos (Nat.zero_le _), Nat.sub_zero, ← atD_at0, ← atD_at0, atD_nat, atD_nat, List.getD_eq_getElem?_getD, List.getElem?_replicate]
  rw [if_pos hw]
  simp
theorem pull_id {n : Nat} {es : Es} (hg : gokB n es = true) (h2 : 2 ≤ n) {d : List Int} (hd : d.length = n) : pullL es es (idL n) (idL es.length) d = d := by
  have hlen : (pullL es es (idL n) (idL es.length) d).length = n := by simp [pullL, idL_len]
  apply ext_at0 (by rw [hlen, hd])
  intro w hw
  rw [hlen] at hw
  unfold pullL
  rw [idL_len, ← atD_at0, atD_nat, List.getD_eq_getElem?_getD, List.getElem?_map, List.getElem?_range hw]
  simp only [Option.map_some, Option.getD_some]
  rw [hor_id hg h2 (by omega) (by omega), idL_at (by omega) (by omega), Int.one_mul]
theorem treeS_ge {N : Nat} {F : List Int → Int} (hF : ∀ p, 0 ≤ F p) : ∀ (l p : List Int), (∀ x ∈ l, 0 ≤ x ∧ x < N) → F (p ++ l) ≤ treeS N F l.length p
  | [], p, _ => by rw [List.append_nil]; exact Int.le_refl _
  | x :: l, p, h => by
    have ih := treeS_ge hF l (p ++ [x]) fun y hy => h y (by simp [hy])
    rw [List.append_assoc] at ih
    have hx := h x (by simp)
    have nn : ∀ (m : Nat) (q : List Int), 0 ≤ treeS N F m q := by
      intro m
      induction m with
      | zero => intro q; exact hF q
      | succ m ihm => intro q; exact sumV_nonneg N fun v _ _ => ihm _
    exact Int.le_trans ih (sumV_ge N (fun v _ _ => nn l.length _) x hx.1 hx.2)
theorem lsum_ge {f : Int → Int} (h : ∀ k, 0 ≤ f k) : ∀ (l : List Int) (k : Int), k ∈ l → f k ≤ lsum l f
  | a :: l, k, hk => by
    rw [lsum_cons]
    rcases List.mem_cons.1 hk with rfl | hk
    · have := lsum_nonneg h l; omega
    · have := lsum_ge h l k hk; have := h a; omega
theorem cntM_ge {leaf : List Int → Int} {choose : Int × Int → List Int} (h : ∀ p, 0 ≤ leaf p) : ∀ (rest : Es) (ks pre : List Int), ks.length = rest.length → (∀ a ∈ rest.zip ks, a.2 ∈ choose a.1) → leaf (pre ++ ks) ≤ cntM leaf choose rest pre
  | [], [], pre, _, _ => by rw [List.append_nil]; exact Int.le_refl _
  | [], k :: ks, pre, hl, _ => by simp at hl
  | e :: rest, [], pre, hl, _ => by simp at hl
  | e :: rest, k :: ks, pre, hl, hc => by
    have ih := cntM_ge h rest ks (pre ++ [k]) (by simpa using hl) fun a ha => hc a (by rw [List.zip_cons_cons]; exact List.mem_cons_of_mem _ ha)
    rw [List.append_assoc] at ih
    have nn : ∀ (rest : Es) (q : List Int), 0 ≤ cntM leaf choose rest q := by
      intro rest
      induction rest with
      | nil => intro q; exact h q
      | cons e rest ihm => intro q; exact lsum_nonneg (fun k => ihm _) _
    exact Int.le_trans ih (lsum_ge (f := fun k => cntM leaf choose rest (pre ++ [k])) (fun k => nn rest _) (choose e) k (hc (e, k) (by rw [List.zip_cons_cons]; exact List.mem_cons_self)))
theorem count_id {n : Nat} {es : Es} (hg : gokB n es = true) (h2 : 2 ≤ n) (h3 : n ≤ 3) (h4 : es.length ≤ 3) : 1 ≤ countM n es n es := by
  have he := gok_EOk hg
  have hcb : countB n es n es = true := by
    simp only [countB, hg, Bool.true_and]
    rw [decide_eq_false (show ¬ (n : Int) > 4 by omega), decide_eq_false (show ¬ (es.length : Int) > 5 by omega), decide_eq_false (show ¬ (n : Int) > 3 by omega), decide_eq_false (show ¬ (es.length : Int) > 3 by omega)]
    rfl
  unfold countM
  rw [if_pos hcb, Int.toNat_natCast]
  have h1 := treeS_ge (N := n) (F := overV n es n es) (fun p => (overV_bound (by omega) h4 p).1) (idL n) [] (fun x hx => idL_mem hx)
  rw [idL_len, List.nil_append] at h1
  refine Int.le_trans ?_ h1
  have hne : allEqB (idL n) = false := by
    obtain ⟨k, rfl⟩ : ∃ k, n = k + 2 := ⟨n - 2, by omega⟩
    rw [idL_from, idFrom_succ, idFrom_succ]
    simp [allEqB]
  unfold overV
  rw [hne]
  simp only [Bool.false_eq_true, if_false]
  have h5 := cntM_ge (leaf := leafS n es n es (idL n)) (choose := imgs es (idL n)) (fun p => (leafS_01 (idL n) p).1) es (idL es.length) [] (idL_len _) (fun a ha => by
    obtain ⟨i, hi, g1, g2⟩ := zip_id_mem ha
    have ho := he a.1 (List.mem_of_getElem? g1)
    unfold imgs
    rw [idL_at (by omega) (by omega), idL_at (by omega) (by omega), if_neg (by omega)]
    rw [g2]
    refine List.mem_map.2 ⟨i, ?_, rfl⟩
    rw [List.mem_filter]
    refine ⟨List.mem_range.2 hi, ?_⟩
    unfold fitB
    rw [idL_at (by omega) (by omega), idL_at (by omega) (by omega), edge_of g1]
    have hm := min2_lt ho.2.1
    rw [hm.1, hm.2]
    simp)
  refine Int.le_trans ?_ h5
  unfold leafS
  rw [List.nil_append, harm_id hg]
  exact Int.le_refl _
theorem impl_IdentityMorphism_spec {n : Nat} {es : Es} (hg : gokB n es = true) : impl_IdentityMorphism ((n : Int), es, ()) = some (idL n, idL es.length, true, ()) := by
  have hn := gokB_n hg
  simp only [impl_IdentityMorphism, impl_GraphOk_spec (n : Int) es (by omega), hg, Option.bind_some, Bool.not_true, cond_false]
  have l1 := loop_all (f := impl_IdentityMorphism_L122) (fun i => ((i : Int), (n : Int), es, idL i, ())) n (r := .inl ((n : Int), es, idL n, ())) (fun i hi => by
    simp only [impl_IdentityMorphism_L122]
    rw [cond_pos (by omega), chk_pos (by rw [idL_len]; simp; omega), w64_of (by omega) (by omega)]
    have : idL i ++ [(i : Int)] = idL (i + 1) := map_range_snoc (fun (i : Nat) => (i : Int)) i
    rw [this]; rfl) (by
    simp only [impl_IdentityMorphism_L122]
    rw [cond_neg (by omega)]; rfl)
  have l1' : loopM impl_IdentityMorphism_L122 (0, (n : Int), es, [], ()) = _ := l1
  rw [l1']
  simp only [joinB_inl, impl_IdentityMorphism_J61]
  have l2 := loop_all (f := impl_IdentityMorphism_L250) (fun i => ((es.length : Int), (i : Int), idL n, idL i, ())) es.length (r := (idL n, idL es.length, true, ())) (fun i hi => by
    simp only [impl_IdentityMorphism_L250]
    rw [cond_pos (by omega), chk_pos (by rw [idL_len]; simp; omega), w64_of (by omega) (by omega)]
    have : idL i ++ [(i : Int)] = idL (i + 1) := map_range_snoc (fun (i : Nat) => (i : Int)) i
    rw [this]; rfl) (by
    simp only [impl_IdentityMorphism_L250]
    rw [cond_neg (by omega)]; rfl)
  exact l2
theorem spec_MakeSmall_spec (b : List Int) (hb : b.length ≤ 1048576) : ∃ (n : Nat) (es : Es), spec_MakeSmall (b, ()) = some ((n : Int), es, ()) ∧ Drawn 4 n es := by
  obtain ⟨h, e1, c⟩ := spec_l01New_spec b hb
  obtain ⟨n, es, i', h', e2, _, hd⟩ := spec_l02Draw_spec c h 4 (by omega)
  refine ⟨n, es, ?_, hd⟩
  simp only [spec_MakeSmall, e1, Option.bind_some]
  have e2' : spec_l02Draw (4, b, 0, h, ()) = _ := e2
  rw [e2']; rfl
theorem law_Identity (b : List Int) : laws_FnIdentity (b, ()) = some (true, ()) := by
  simp only [laws_FnIdentity]
  by_cases h1 : (b.length : Int) > 1048576
  · rw [cond_pos h1]
  rw [cond_neg h1]
  obtain ⟨n, es, e1, hd⟩ := spec_MakeSmall_spec b (by omega)
  have h2 := hd.two
  have hle := hd.le
  have hg := hd.gok (by omega)
  have hlen := hd.len
  have hn := gokB_n hg
  obtain ⟨d, e2, hdl, hdv⟩ := spec_MakeDivisor_spec b (by omega) 20 (by omega) n (by omega) es
  have e2' : spec_MakeDivisor (b, 20, (n : Int), es, ()) = _ := e2
  have hdo : divOkB n es d = true := divOkB_of hg (by omega) (fun x hx => by have := hdv x hx; omega)
  have L1 : (idL n).length ≤ 17592186044416 := by rw [idL_len]; omega
  have L2 : (idL es.length).length ≤ 17592186044416 := by rw [idL_len]; omega
  have e3 := impl_PushForward_spec (n : Int) es (n : Int) es (idL n) (idL es.length) d (by omega) (by omega) L1 L2 (by omega)
  have e4 := impl_PullBack_spec (n : Int) es (n : Int) es (idL n) (idL es.length) d (by omega) (by omega) L1 L2 (by omega)
  rw [harm_id hg, hdo] at e3 e4
  simp only [Bool.and_self, if_true, Int.toNat_natCast, push_id hdl] at e3
  simp only [Bool.and_self, if_true, pull_id hg h2 hdl] at e4
  have e5 := impl_CountMorphisms_spec (n : Int) es (n : Int) es (by omega) (by omega)
  have e6 := impl_IsHarmonic_spec (n : Int) es (n : Int) es (idL n) (idL es.length) (by omega) (by omega) L1 L2
  have e7 := impl_DegreeOfMorphism_spec (n : Int) es (n : Int) es (idL n) (idL es.length) (by omega) (by omega) L1 L2
  rw [harm_id hg] at e6 e7
  simp only [if_true, deg_id (len_pos hg h2)] at e7
  have e8 := laws_same_refl d (by omega)
  simp only [e1, impl_IdentityMorphism_spec hg, e2', e3, e4, e5, Option.bind_some]
  have fin : ∀ small : Bool, small = (decide (n ≤ 3) && decide (es.length ≤ 3)) → laws_FnIdentity_J1022 (true, d, d, true, d, true, countM n es n es, small, (n : Int), es, idL n, idL es.length, ()) = some (true, ()) := by
    intro small hs
    simp only [laws_FnIdentity_J1022, cond_true, e6, e7, e8, Option.bind_some, beq_self_eq_true]
    cases small
    · have hc : countM n es n es = -1 := by
        unfold countM
        have : countB n es n es = false := by
          rw [Bool.eq_false_iff]
          intro h
          obtain ⟨m, M, a1, a2, _, _, _, _, _, a3, _, a4⟩ := countB_spec h
          have b1 : decide (n ≤ 3) = true := decide_eq_true (by omega)
          have b2 : decide (es.length ≤ 3) = true := decide_eq_true a4
          rw [b1, b2] at hs
          simp at hs
        rw [this]; rfl
      rw [hc]; rfl
    · have hs' : n ≤ 3 ∧ es.length ≤ 3 := by simpa using hs.symm
      have hc := count_id hg h2 hs'.1 hs'.2
      rw [decide_eq_true (show countM n es n es ≥ 1 from hc), beq_dec, decide_eq_false (show ¬ countM n es n es = -1 by omega)]
      rfl
  by_cases h3 : (n : Int) ≤ 3
  · rw [cond_pos h3]
    simp only [joinB_inl]
    refine fin _ ?_
    rw [decide_eq_true (show n ≤ 3 by omega)]
    simp only [Bool.true_and]
    exact decide_eq_decide.2 (by omega)
  · rw [cond_neg h3]
    simp only [joinB_inl]
    refine fin _ ?_
    rw [decide_eq_false (show ¬ n ≤ 3 by omega)]
    rfl
end Go.Pm.Try

