/-
  The claim: for every two graphs, the program's CountMorphisms answers as the reference does and leaves its arguments as they were.
  Conditions: none beside the row's own.
-/
import Derived.Test.YteplfcgofnfciaaL3
import Derived.ProofKit
import Derived.OpenShut
import Derived.Lib.SmallJoins
import Derived.Deep.Slices
import Derived.Deep.Fields
import Derived.Test.YteplfcgofnfciaaRows
set_option linter.unusedVariables false
namespace Go.Pm
open Go.ChangeShapes Go.WideShapes Go.RowKit Go.Joins Go.Deep
abbrev noB : Nat → Prop := fun _ => False
abbrev noO : Look := fun _ => none
abbrev noP : Pl := fun _ => none
theorem list_of {α : Type} (p : Nat → α → Prop) : ∀ n : Nat, (∀ i, i < n → ∃ a, p i a) → ∃ l : List α, l.length = n ∧ ∀ i (h : i < l.length), p i l[i]
  | 0, _ => ⟨[], rfl, fun i h => by simp at h⟩
  | n + 1, h => by
    obtain ⟨l, hl, hp⟩ := list_of p n fun i hi => h i (by omega)
    obtain ⟨a, ha⟩ := h n (by omega)
    refine ⟨l ++ [a], by simp [hl], fun i hi => ?_⟩
    by_cases hin : i < l.length
    · rw [List.getElem_append_left hin]; exact hp i hin
    · have e : i = l.length := by simp at hi; omega
      subst e
      rw [List.getElem_append_right (by omega)]
      simp
      rw [hl]; exact ha
section
variable {H : Type} {enc : TypeId × Value → H} {P : Program} {w : World} {base : Nat} {spare : Nat → Bool} {held : Bool}
theorem leaf_int {t : TypeId} {k : IntKind} {n : Nat} {v : Value} {y : DataW H × List MemPlace} (ht : P.underlying t = some (.int k)) (h : DataW.trod enc P w base spare held n t [v] = some y) : ∃ x : Int, v = .int k x ∧ (Lit.int k x).wf = true := by
  obtain ⟨x, hc, _, hw⟩ := DataW.trod_int ht h
  cases hc
  exact ⟨x, rfl, hw⟩
theorem leaf_iis {t e : TypeId} {f0 f1 : Field} {n : Nat} {v : Value} {y : DataW H × List MemPlace} (ht : P.underlying t = some (.slice e)) (he : P.underlying e = some (.struct #[f0, f1])) (hone : oneCellFields P #[f0, f1] = true) (hC : P.cellsOf e = 2)
    (h0 : P.underlying f0.type = some (.int .i64)) (h1 : P.underlying f1.type = some (.int .i64)) (h : DataW.trod enc P w base spare held n t [v] = some y) :
    ∃ xs : List (Int × Int), xs.length ≤ maxLen ∧ SlR (fun (x : Int × Int) (c : Nat → Option Value) => c 0 = some (.int .i64 x.1) ∧ c 1 = some (.int .i64 x.2)) 2 w noB xs false v ∧ v.oneCell' = true := by
  rcases open_slice ht h with ⟨hcs, _⟩ | ⟨a, len, cap, m, n', D, Pl, hcs, _, hl, hm, hmm, _, hi⟩
  · cases hcs
    exact ⟨[], Nat.zero_le _, ⟨none, 0, 0, rfl, rfl, (fun h => by cases h), Nat.le_refl _, fun h => absurd h (Nat.lt_irrefl 0)⟩, rfl⟩
  · cases hcs
    have hlm : len ≤ m := by rw [hmm]; split <;> omega
    obtain ⟨o0, k0⟩ := hone_of hone 0 f0 rfl
    obtain ⟨o1, k1⟩ := hone_of hone 1 f1 rfl
    obtain ⟨es, hes, hp⟩ := list_of (fun i (x : Int × Int) => w.cell? (a.add (i * 2 + 0)) = some (.int .i64 x.1) ∧ w.cell? (a.add (i * 2 + 1)) = some (.int .i64 x.2)) len (fun i hil => by
      obtain ⟨cs, hc, htr⟩ := hi i (by omega)
      rw [hC] at hc
      obtain ⟨_, hcl, hat⟩ := World.cells?_some hc
      obtain ⟨c0, c1, rfl⟩ : ∃ c0 c1, cs = [c0, c1] := by
        match cs, hcl with
        | [c0, c1], _ => exact ⟨c0, c1, rfl⟩
      obtain ⟨y0, y1, n2, _, _, t0, t1⟩ := trod_struct2 he htr
      rw [o0, k0] at t0
      rw [o1, k1] at t1
      obtain ⟨x0, e0, _⟩ := leaf_int h0 t0
      obtain ⟨x1, e1, _⟩ := leaf_int h1 t1
      subst e0; subst e1
      have a0 := hat 0 (by omega)
      have a1 := hat 1 (by omega)
      rw [Go.Deep.add_add] at a0 a1
      exact ⟨(x0, x1), by simpa using a0, by simpa using a1⟩)
    refine ⟨es, by rw [hes]; omega, ⟨some a, len, cap, rfl, hes, (fun h => by cases h), hl, fun h0 => ?_⟩, rfl⟩
    obtain ⟨ab, ao, spot⟩ := a
    have hc0 := (hp 0 (by omega)).1
    have hspot : spot = none := by simpa [Addr.add] using World.cell?_spot hc0
    subst hspot
    refine ⟨ab, ao, rfl, ?_, id, fun i hi => ?_⟩
    · have := World.block_lt_of_cell? w _ hc0
      simpa [Addr.add] using this
    · obtain ⟨c0, c1⟩ := hp i hi
      rw [Addr.add_lit] at c0 c1
      refine ⟨?_, ?_⟩
      · show w.cell? ⟨ab, ao + i * 2 + 0, none⟩ = _
        rw [Nat.add_assoc]; exact c0
      · show w.cell? ⟨ab, ao + i * 2 + 1, none⟩ = _
        rw [Nat.add_assoc]; exact c1
end
section
variable {H : Type} {enc : TypeId × Value → H} {P : Program} {w : World} {base : Nat} {spare : Nat → Bool} {held : Bool} {r : Reach} {b0 : Nat} {v : Value} {d : DataW H} {ps : List MemPlace}
/-- a graph: a number and a row of pairs -/
theorem par_graph {t : TypeId} {g0 g1 : Field} {e : TypeId} {f0 f1 : Field} (hs : P.underlying t = some (.struct #[g0, g1])) (hone : oneCellFields P #[g0, g1] = true) (hC : P.cellsOf t = 2) (hg0 : P.underlying g0.type = some (.int .i64)) (hg1 : P.underlying g1.type = some (.slice e))
    (he : P.underlying e = some (.struct #[f0, f1])) (hone' : oneCellFields P #[f0, f1] = true) (hC' : P.cellsOf e = 2) (h0 : P.underlying f0.type = some (.int .i64)) (h1 : P.underlying f1.type = some (.int .i64))
    (hv : Value.okWide P w r b0 t v) (hd : DataW.Trod enc P w base spare held t v d ps) :
    ∃ (n : Int) (es : List (Int × Int)), es.length ≤ maxLen ∧ (Lit.int .i64 n).wf = true ∧ VR noO noP w noB (.agg [.p (.int .i64 n), .ro .ii es false]) v := by
  obtain ⟨v0, v1, y0, y1, m, rfl, _, _, t0, t1⟩ := open_agg2 hs hone hC hv hd
  obtain ⟨n, rfl, hw⟩ := leaf_int hg0 t0
  obtain ⟨es, h2, h3, h4⟩ := leaf_iis hg1 he hone' hC' h0 h1 t1
  refine ⟨n, es, h2, hw, #[.int .i64 n, v1], rfl, rfl, fun j x c hx hc => ?_⟩
  match j, hx, hc with
  | 0, hx, hc => simp at hx hc; subst hx; subst hc; exact ⟨⟨rfl, rfl⟩, rfl⟩
  | 1, hx, hc => simp at hx hc; subst hx; subst hc; exact ⟨h3, h4⟩
theorem TrodAll_stays (hl : laidOutB P = true) {W W' : World} (hb : Below W.heap.size W W') {sp : Nat → Bool} : ∀ {ts : List TypeId} {vs : List Value} {ds : List (DataW H)} {ps : List MemPlace}, (∀ t ∈ ts, P.readableRec t = true ∧ t < P.types.size) →
    DataW.TrodAll enc P W 0 (fun _ => true) true ts vs ds ps → (∀ x ∈ ps, x.block < W.heap.size) → (∀ x ∈ ps, sp x.block = true) → DataW.TrodAll enc P W' 0 sp true ts vs ds ps
  | [], vs, ds, ps, _, h, _, _ => by
    obtain ⟨rfl, rfl, rfl⟩ := trodAll_nil h
    exact trodAll_mk0
  | t :: ts, vs, ds, ps, ht, h, hlt, hsp => by
    obtain ⟨v, vs', d, ds', p, q, rfl, rfl, rfl, h1, h2⟩ := trodAll_cons h
    have h3 := WideElems.Trod_stays (sp' := sp) hl (ht t List.mem_cons_self).1 (ht t List.mem_cons_self).2 h1 (fun x hx => hb.same (hlt x (List.mem_append_left _ hx))) (fun x hx => hsp x (List.mem_append_left _ hx))
    have h4 := TrodAll_stays hl hb (sp := sp) (fun u hu => ht u (List.mem_cons_of_mem _ hu)) h2 (fun x hx => hlt x (List.mem_append_right _ hx)) (fun x hx => hsp x (List.mem_append_right _ hx))
    exact trodAll_cons_mk h3 h4
end
/-- a call of a function that changes nothing and answers a bool -/
theorem law_calls {P : Program} {f : FuncId} {ins : List Item} {run : Den ins → Option (Den [.t 500 .bool])} (c : CallsD P f ⟨ins, [], [.t 500 .bool], run⟩) (x : Den ins) (ho : ∀ j, getO (enc id ins x).o j = none) (hx : run x = some (true, ())) {args : Array Value} {W : World}
    (hrel : ∀ k, VR noO noP W noB (getT (enc id ins x).t k) (args.getD k undef)) : Calls P f args W fun e W' => e = .returned (.bool true) ∧ Below W.heap.size W W' := by
  have hO : getO (enc id ins x).o = noO := funext ho
  have hB : BO noB noO noP = noB := by
    funext g
    apply propext
    constructor
    · rintro (h | ⟨id, z, c, h, _⟩)
      · exact h
      · cases h
    · exact fun h => h.elim
  refine (c.2 x (true, ()) hx noB args noP W ?_ ?_).mono ?_
  · refine ⟨fun k => ?_, fun id z h => ?_, fun id id' z z' g c c' h => ?_, fun id z g c h => ?_⟩
    · rw [hO, hB]; exact hrel k
    · rw [ho] at h; cases h
    · rw [ho] at h; cases h
    · rw [ho] at h; cases h
  · exact fun g h => h.elim
  · rintro e W' ⟨v, ρ', rfl, hout⟩
    have ht := hout.tm
    refine ⟨?_, ?_⟩
    · have : v = .bool true := ht.1
      rw [this]
    · have hf := hout.fr
      refine ⟨hf.os, hf.tape, hf.output, hf.size, fun k hk => hf.block k hk ?_⟩
      rintro ⟨n, z, c, h, _⟩
      change getO (enc id ins x).o n = _ at h
      rw [ho] at h; cases h
open Go.ChangeAt in
/-- what a row of a law wants of the call -/
theorem law_post {H : Type} {enc : TypeId × Value → H} {P : Program} {f : Func} {fid : FuncId} {s : ChangeSpec} (hl : laidOutB P = true) (hp : ∀ t ∈ f.params.toList, P.readableRec t = true ∧ t < P.types.size) {tb : TypeId} (hr : f.resultTypes = #[tb]) (hb : P.underlying tb = some .bool) (hvars : s.vars = [])
    (hfn : ∀ ds : List (DataW H), ds.length = f.params.toList.length → s.fn H (ds ++ []) = { results := [.lit (.bool true)], args := ds }) {W : World} {args : Array Value} {ds gs : List (DataW H)} {before : List MemPlace}
    (hW : DataW.Whole enc P f.params.toList s.vars false W args.toList ds gs before) (hc : Calls P fid args W fun e W' => e = .returned (.bool true) ∧ Below W.heap.size W W') :
    Calls P fid args W fun e W' => ∃ v, e = .returned v ∧ s.post enc P f false true false false W args v W' := by
  have hW' := hW
  obtain ⟨p, q, hA, hV, rfl, hfz, hnd⟩ := hW
  rw [hvars] at hV
  obtain ⟨rfl, rfl⟩ := trodVars_none hV
  have hlen : ∀ {ts : List TypeId} {vs : List Value} {ds : List (DataW H)} {ps : List MemPlace}, DataW.TrodAll enc P W 0 (fun _ => true) true ts vs ds ps → ds.length = ts.length := by
    intro ts
    induction ts with
    | nil => intro vs ds ps h; obtain ⟨_, rfl, _⟩ := trodAll_nil h; rfl
    | cons t ts ih => intro vs ds ps h; obtain ⟨v, vs', d, ds', p, q, rfl, rfl, rfl, h1, h2⟩ := trodAll_cons h; simp [ih h2]
  have hfn := hfn ds (hlen hA)
  refine hc.mono ?_
  rintro e W' ⟨rfl, hbel⟩
  have hlt : ∀ x ∈ p, x.block < W.heap.size := fun x hx => by simpa using hW'.lt x (by simpa using hx)
  have hres : ∀ (b : Nat) (sp : Nat → Bool) (hd : Bool), DataW.TrodAll enc P W' b sp hd f.resultTypes.toList ((Value.bool true).resultList f.resultTypes.size) (s.fn H (ds ++ [])).results [] := fun b sp hd => by
    rw [hfn, hr]; exact trodAll_cons_mk (shut_bool hb true) trodAll_mk0
  have hargs : ∀ sp : Nat → Bool, (∀ x ∈ p, sp x.block = true) → DataW.TrodAll enc P W' 0 sp true f.params.toList args.toList (s.fn H (ds ++ [])).args p := fun sp hsp => by
    rw [hfn]; exact TrodAll_stays hl hbel hp hA hlt hsp
  have hvs : ∀ sp : Nat → Bool, DataW.TrodVars enc P W' sp s.vars (s.fn H (ds ++ [])).vars [] := fun sp => by rw [hfn, hvars]; exact rfl
  refine ⟨.bool true, rfl, ds, [], p ++ [], [], p, [], hW', hres _ _ _, hargs _ (fun x hx => by simpa using hlt x hx), hvs _, World.keptBut_mono (fun x hx => ⟨hx, .inr (by simpa using hx)⟩) (hbel.frame _), fun h => by cases h⟩
end Go.Pm

set_option linter.unusedVariables false
namespace Go.Proofs.Yteplfcgofnfciaa
open Go.ChangeShapes Go.WideShapes Go.ChangeAt Go.RowKit Go.Pm
theorem own : ownKnob Try.prog.godebug = none := by kernel_rfl
theorem laidOut : laidOutB Try.prog = true := by kernel_rfl
theorem rows3 : ∀ t ∈ Try.f3.params.toList, Try.prog.readableRec t = true ∧ t < Try.prog.types.size := by
  rw [Try.params3]
  intro t ht
  have : t = 24 ∨ t = 24 := by simpa using ht
  rcases this with rfl | rfl
  · exact ⟨by kernel_rfl, of_decide_eq_true (by kernel_rfl)⟩
  · exact ⟨by kernel_rfl, of_decide_eq_true (by kernel_rfl)⟩
set_option maxRecDepth 100000 in
theorem contract3 (H : Type) (enc : TypeId × Value → H) (W : World) (base : Nat) (args : Array Value) (ds gs : List (DataW H)) (before : List MemPlace)
    (hval : ∀ (j : Nat) t v, Try.f3.params[j]? = some t → args[j]? = some v → Value.okWide Try.prog W .any base t v)
    (hW : DataW.Whole enc Try.prog Try.f3.params.toList Rows.fnExactCountMorphismsSpec.vars false W args.toList ds gs before) :
    Calls Try.prog 3 args W fun e W' => ∃ v, e = .returned v ∧ Rows.fnExactCountMorphismsSpec.post enc Try.prog Try.f3 false true false false W args v W' := by
  refine law_post laidOut rows3 (tb := 4) rfl (by kernel_rfl) rfl (fun ds hds => ?_) hW ?_
  · have e : Try.f3.params.toList.length = 2 := by rw [Try.params3]; rfl
    rw [e] at hds
    match ds, hds with
    | [d1, d2], _ => rfl
  · obtain ⟨p, q, hA0, hV, _, _, _⟩ := hW
    have hA : DataW.TrodAll enc Try.prog W 0 (fun _ => true) true Try.f3.params.toList args.toList ds p := hA0
    rw [Try.params3] at hA hval
    obtain ⟨v0, v1, d0, d1, p0, p1, rfl, _, _, h0, h1⟩ := trodAll_two hA
    obtain ⟨n, es, hlen, _, r0⟩ := par_graph Try.underlying24 (by kernel_rfl) (by kernel_rfl) Try.underlying3 Try.underlying22 Try.underlying108 (by kernel_rfl) (by kernel_rfl) Try.underlying3 Try.underlying3 (hval 0 24 v0 rfl rfl) h0
    obtain ⟨m, hs, hlen2, _, r1⟩ := par_graph Try.underlying24 (by kernel_rfl) (by kernel_rfl) Try.underlying3 Try.underlying22 Try.underlying108 (by kernel_rfl) (by kernel_rfl) Try.underlying3 Try.underlying3 (hval 1 24 v1 rfl rfl) h1
    refine law_calls (Pm.Try.laws_FnExactCountMorphisms_c) (n, es, m, hs, ()) (fun j => rfl) (Pm.Try.law_CountMorphisms n es m hs hlen hlen2) fun k => ?_
    match k with
    | 0 => exact r0
    | 1 => exact r1
    | k + 2 => exact trivial
set_option maxRecDepth 100000 in
theorem lifted3 (os : Os) (started : os.Started) (H : Type) (enc : TypeId × Value → H) :
    ReturnsInHanded {} Try.checked os 3 .any (Rows.fnExactCountMorphismsSpec.pre6 enc Try.prog Try.f3 Rows.fnExactCountMorphismsRow.domain false) (Rows.fnExactCountMorphismsSpec.post enc Try.prog Try.f3 false true false false) := by
  refine returnsInHanded_of_change (C := Try.checked) own started (by kernel_rfl) Try.func3
    (ChangeSpec.witness6 (enc := enc) (C := Try.checked) false ⟨#[], #[.agg #[.int .i64 0, .slice none 0 0], .agg #[.int .i64 0, .slice none 0 0]], []⟩ 8 (by kernel_rfl) (by kernel_rfl) (by kernel_rfl) (by kernel_rfl)) ?_
  intro W base args ds gs before hval hW _ _
  exact contract3 H enc W base args ds gs before hval hW
theorem count_morphisms : Rows.FnExactCountMorphismsSaid :=
  OpenClaim.holds_of_wide 3 Try.f3 rfl rfl rfl rfl rfl rfl rfl ⟨rfl, rfl, rfl, rfl, rfl⟩ rfl rfl rfl rfl rfl (by kernel_rfl) Try.func3 (by kernel_rfl)
    (of_decide_eq_true (by kernel_rfl)) (by unfold Func.isWrapper; first | (rw [if_pos (by decide +kernel)]; kernel_rfl) | (rw [if_neg (by decide +kernel)]; exact ⟨rfl, rfl⟩))
    (fun os started H enc _ => lifted3 os started H enc)
#print axioms count_morphisms
end Go.Proofs.Yteplfcgofnfciaa

