/-
  The claim: for every code, walkers act on the spanning trees of the graph that it draws as the group does: equivalent configurations lead to the same tree, and different classes to different ones.
  Conditions: none beside the row's own.
-/
import Derived.Test.YteplfcgofnfciaaL8
import Derived.ProofKit
import Derived.OpenShut
import Derived.Lib.SmallJoins
import Derived.Deep.Slices
import Derived.Deep.Fields
import Derived.Test.YteplfcgofnfciaaRows
set_option linter.unusedVariables false
set_option linter.unusedSimpArgs false
set_option linter.unusedSectionVars false
set_option linter.unusedVariables false
namespace Go.Pm
open Go.ChangeShapes Go.WideShapes Go.RowKit Go.Joins Go.Deep
abbrev noB : Nat → Prop := fun _ => False
abbrev noO : Look := fun _ => none
abbrev noP : Pl := fun _ => none
section
variable {H : Type} {enc : TypeId × Value → H} {P : Program} {w : World} {base : Nat} {spare : Nat → Bool} {held : Bool}
theorem leaf_ints {t e : TypeId} {k : IntKind} {n : Nat} {v : Value} {y : DataW H × List MemPlace} (ht : P.underlying t = some (.slice e)) (he : P.underlying e = some (.int k)) (hc : P.cellsOf e = 1)
    (h : DataW.trod enc P w base spare held n t [v] = some y) : ∃ xs : List Int, xs.length ≤ maxLen ∧ SlR (fun (x : Int) (c : Nat → Option Value) => c 0 = some (.int k x)) 1 w noB xs false v ∧ v.oneCell' = true ∧ ∀ x ∈ xs, (Lit.int k x).wf = true := by
  rcases open_ints ht he hc h with ⟨hcs, _⟩ | ⟨a, len, cap, zs, hcs, hb, hl, hm, hz, hx, hcell, hwf⟩
  · cases hcs
    exact ⟨[], Nat.zero_le _, ⟨none, 0, 0, rfl, rfl, (fun h => by cases h), Nat.le_refl _, fun h => absurd h (Nat.lt_irrefl 0)⟩, rfl, fun x hx => by cases hx⟩
  · cases hcs
    have hlz : len ≤ zs.length := by rw [hz]; split <;> omega
    have hlen : (zs.take len).length = len := by simp; omega
    refine ⟨zs.take len, by rw [hlen]; omega, ⟨some a, len, cap, rfl, hlen, (fun h => by cases h), hl, fun h0 => ?_⟩, rfl, fun x hx => hwf x (List.mem_of_mem_take hx)⟩
    obtain ⟨ab, ao, spot⟩ := a
    have hspot : spot = none := by simpa [Addr.add] using World.cell?_spot (hcell 0 (by omega))
    subst hspot
    refine ⟨ab, ao, rfl, ?_, id, fun i hi => ?_⟩
    · have := World.block_lt_of_cell? w _ (hcell 0 (by omega))
      simpa [Addr.add] using this
    · rw [hlen] at hi
      have h1 := hcell i (by omega)
      rw [Addr.add_lit] at h1
      show w.cell? ⟨ab, ao + i * 1 + 0, none⟩ = _
      rw [Nat.mul_one, Nat.add_zero, h1]
      simp [List.getD, List.getElem_take, List.getElem?_eq_getElem (show i < zs.length by omega)]
end
section
variable {H : Type} {enc : TypeId × Value → H} {P : Program} {w : World} {base : Nat} {spare : Nat → Bool} {held : Bool} {r : Reach} {b0 : Nat} {v : Value} {d : DataW H} {ps : List MemPlace}
theorem par_ints {t e : TypeId} {k : IntKind} (ht : P.underlying t = some (.slice e)) (he : P.underlying e = some (.int k)) (hc : P.cellsOf e = 1) (hv : Value.okWide P w r b0 t v) (hd : DataW.Trod enc P w base spare held t v d ps) :
    ∃ xs : List Int, xs.length ≤ maxLen ∧ VR noO noP w noB (.l (.ro (.int k) xs false)) v ∧ ∀ x ∈ xs, (Lit.int k x).wf = true := by
  obtain ⟨a, l, c, rfl⟩ := okWide_slice ht hv
  obtain ⟨fuel, hf⟩ := hd
  obtain ⟨xs, h1, h2, _, h3⟩ := leaf_ints ht he hc hf
  exact ⟨xs, h1, h2, h3⟩
theorem TrodAll_stays (hl : laidOutB P = true) {W W' : World} (hb : Below W.heap.size W W') {sp : Nat → Bool} : ∀ {ts : List TypeId} {vs : List Value} {ds : List (DataW H)} {ps : List MemPlace}, (∀ t ∈ ts, P.readableRec t = true ∧ t < P.types.size) →
    DataW.TrodAll enc P W 0 (fun _ => true) true ts vs ds ps → (∀ x ∈ ps, x.block < W.heap.size) → (∀ x ∈ ps, sp x.block = true) → DataW.TrodAll enc P W' 0 sp true ts vs ds ps
  | [], vs, ds, ps, _, h, _, _ => by
    obtain ⟨rfl, rfl, rfl⟩ := trodAll_nil h
    exact trodAll_mk0
  | t :: ts, vs, ds, ps, ht, h, hlt, hsp => by
    obtain ⟨v, vs', d, ds', p, q, rfl, rfl, rfl, h1, h2⟩ := trodAll_cons h
    have h3 := WideElems.Trod_stays (sp' := sp) hl (ht t List.mem_cons_self).1 (ht t List.mem_cons_self).2 h1 (fun x hx => hb.same (hlt x (List.mem_append_left _ hx))) (fun x hx => hsp x (List.mem_append_left _ hx))
    have h4 := TrodAll_stays hl hb (sp := sp) (fun u hu => ht u (List.mem_cons_of_mem _ hu)) h2 (fun x hx => hlt x (List.mem_append_right _ hx)) (fun x hx => hsp x (List.mem_append_right _ hx))
    exact trodAll_cons_mk h3 h4
end
/-- a call of a function that changes nothing and answers a bool -/
theorem law_calls {P : Program} {f : FuncId} {ins : List Item} {run : Den ins → Option (Den [.t 500 .bool])} (c : CallsD P f ⟨ins, [], [.t 500 .bool], run⟩) (x : Den ins) (ho : ∀ j, getO (enc id ins x).o j = none) (hx : run x = some (true, ())) {args : Array Value} {W : World}
    (hrel : ∀ k, VR noO noP W noB (getT (enc id ins x).t k) (args.getD k undef)) : Calls P f args W fun e W' => e = .returned (.bool true) ∧ Below W.heap.size W W' := by
  have hO : getO (enc id ins x).o = noO := funext ho
  have hB : BO noB noO noP = noB := by
    funext g
    apply propext
    constructor
    · rintro (h | ⟨id, z, c, h, _⟩)
      · exact h
      · cases h
    · exact fun h => h.elim
  refine (c.2 x (true, ()) hx noB args noP W ?_ ?_).mono ?_
  · refine ⟨fun k => ?_, fun id z h => ?_, fun id id' z z' g c c' h => ?_, fun id z g c h => ?_⟩
    · rw [hO, hB]; exact hrel k
    · rw [ho] at h; cases h
    · rw [ho] at h; cases h
    · rw [ho] at h; cases h
  · exact fun g h => h.elim
  · rintro e W' ⟨v, ρ', rfl, hout⟩
    have ht := hout.tm
    refine ⟨?_, ?_⟩
    · have : v = .bool true := ht.1
      rw [this]
    · have hf := hout.fr
      refine ⟨hf.os, hf.tape, hf.output, hf.size, fun k hk => hf.block k hk ?_⟩
      rintro ⟨n, z, c, h, _⟩
      change getO (enc id ins x).o n = _ at h
      rw [ho] at h; cases h
open Go.ChangeAt in
/-- what a row of a law wants of the call -/
theorem law_post {H : Type} {enc : TypeId × Value → H} {P : Program} {f : Func} {fid : FuncId} {s : ChangeSpec} (hl : laidOutB P = true) (hp : ∀ t ∈ f.params.toList, P.readableRec t = true ∧ t < P.types.size) {tb : TypeId} (hr : f.resultTypes = #[tb]) (hb : P.underlying tb = some .bool) (hvars : s.vars = [])
    (hfn : ∀ ds : List (DataW H), ds.length = f.params.toList.length → s.fn H (ds ++ []) = { results := [.lit (.bool true)], args := ds }) {W : World} {args : Array Value} {ds gs : List (DataW H)} {before : List MemPlace}
    (hW : DataW.Whole enc P f.params.toList s.vars false W args.toList ds gs before) (hc : Calls P fid args W fun e W' => e = .returned (.bool true) ∧ Below W.heap.size W W') :
    Calls P fid args W fun e W' => ∃ v, e = .returned v ∧ s.post enc P f false true false false W args v W' := by
  have hW' := hW
  obtain ⟨p, q, hA, hV, rfl, hfz, hnd⟩ := hW
  rw [hvars] at hV
  obtain ⟨rfl, rfl⟩ := trodVars_none hV
  have hlen : ∀ {ts : List TypeId} {vs : List Value} {ds : List (DataW H)} {ps : List MemPlace}, DataW.TrodAll enc P W 0 (fun _ => true) true ts vs ds ps → ds.length = ts.length := by
    intro ts
    induction ts with
    | nil => intro vs ds ps h; obtain ⟨_, rfl, _⟩ := trodAll_nil h; rfl
    | cons t ts ih => intro vs ds ps h; obtain ⟨v, vs', d, ds', p, q, rfl, rfl, rfl, h1, h2⟩ := trodAll_cons h; simp [ih h2]
  have hfn := hfn ds (hlen hA)
  refine hc.mono ?_
  rintro e W' ⟨rfl, hbel⟩
  have hlt : ∀ x ∈ p, x.block < W.heap.size := fun x hx => by simpa using hW'.lt x (by simpa using hx)
  have hres : ∀ (b : Nat) (sp : Nat → Bool) (hd : Bool), DataW.TrodAll enc P W' b sp hd f.resultTypes.toList ((Value.bool true).resultList f.resultTypes.size) (s.fn H (ds ++ [])).results [] := fun b sp hd => by
    rw [hfn, hr]; exact trodAll_cons_mk (shut_bool hb true) trodAll_mk0
  have hargs : ∀ sp : Nat → Bool, (∀ x ∈ p, sp x.block = true) → DataW.TrodAll enc P W' 0 sp true f.params.toList args.toList (s.fn H (ds ++ [])).args p := fun sp hsp => by
    rw [hfn]; exact TrodAll_stays hl hbel hp hA hlt hsp
  have hvs : ∀ sp : Nat → Bool, DataW.TrodVars enc P W' sp s.vars (s.fn H (ds ++ [])).vars [] := fun sp => by rw [hfn, hvars]; exact rfl
  refine ⟨.bool true, rfl, ds, [], p ++ [], [], p, [], hW', hres _ _ _, hargs _ (fun x hx => by simpa using hlt x hx), hvs _, World.keptBut_mono (fun x hx => ⟨hx, .inr (by simpa using hx)⟩) (hbel.frame _), fun h => by cases h⟩
end Go.Pm

set_option linter.unusedVariables false
namespace Go.Proofs.Yteplfcgofnfciaa
open Go.ChangeShapes Go.WideShapes Go.ChangeAt Go.RowKit Go.Pm
theorem own : ownKnob Try.prog.godebug = none := by kernel_rfl
theorem laidOut : laidOutB Try.prog = true := by kernel_rfl
theorem rows8 : ∀ t ∈ Try.f8.params.toList, Try.prog.readableRec t = true ∧ t < Try.prog.types.size := by
  rw [Try.params8]
  intro t ht
  have : t = 33 := by simpa using ht
  rcases this with rfl
  · exact ⟨by kernel_rfl, of_decide_eq_true (by kernel_rfl)⟩
set_option maxRecDepth 100000 in
theorem contract8 (H : Type) (enc : TypeId × Value → H) (W : World) (base : Nat) (args : Array Value) (ds gs : List (DataW H)) (before : List MemPlace)
    (hval : ∀ (j : Nat) t v, Try.f8.params[j]? = some t → args[j]? = some v → Value.okWide Try.prog W .any base t v)
    (hW : DataW.Whole enc Try.prog Try.f8.params.toList Rows.fnActsSpec.vars false W args.toList ds gs before) :
    Calls Try.prog 8 args W fun e W' => ∃ v, e = .returned v ∧ Rows.fnActsSpec.post enc Try.prog Try.f8 false true false false W args v W' := by
  refine law_post laidOut rows8 (tb := 4) rfl (by kernel_rfl) rfl (fun ds hds => ?_) hW ?_
  · have e : Try.f8.params.toList.length = 1 := by rw [Try.params8]; rfl
    rw [e] at hds
    match ds, hds with
    | [d1], _ => rfl
  · obtain ⟨p, q, hA0, hV, _, _, _⟩ := hW
    have hA : DataW.TrodAll enc Try.prog W 0 (fun _ => true) true Try.f8.params.toList args.toList ds p := hA0
    rw [Try.params8] at hA hval
    obtain ⟨v0, d0, rfl, _, h0⟩ := trodAll_one hA
    obtain ⟨b, _, r0, _⟩ := par_ints Try.underlying33 Try.underlying5 (by kernel_rfl) (hval 0 33 v0 rfl rfl) h0
    refine law_calls (Pm.Try.laws_FnActs_c) (b, ()) (fun j => rfl) (Pm.Try.law_Acts b) fun k => ?_
    match k with
    | 0 => exact r0
    | k + 1 => exact trivial
set_option maxRecDepth 100000 in
theorem lifted8 (os : Os) (started : os.Started) (H : Type) (enc : TypeId × Value → H) :
    ReturnsInHanded {} Try.checked os 8 .any (Rows.fnActsSpec.pre6 enc Try.prog Try.f8 Rows.fnActsRow.domain false) (Rows.fnActsSpec.post enc Try.prog Try.f8 false true false false) := by
  refine returnsInHanded_of_change (C := Try.checked) own started (by kernel_rfl) Try.func8
    (ChangeSpec.witness6 (enc := enc) (C := Try.checked) false ⟨#[], #[.slice none 0 0], []⟩ 8 (by kernel_rfl) (by kernel_rfl) (by kernel_rfl) (by kernel_rfl)) ?_
  intro W base args ds gs before hval hW _ _
  exact contract8 H enc W base args ds gs before hval hW
theorem acts_freely : Rows.FnActsSaid :=
  OpenClaim.holds_of_wide 8 Try.f8 rfl rfl rfl rfl rfl rfl rfl ⟨rfl, rfl, rfl, rfl, rfl⟩ rfl rfl rfl rfl rfl (by kernel_rfl) Try.func8 (by kernel_rfl)
    (of_decide_eq_true (by kernel_rfl)) (by unfold Func.isWrapper; first | (rw [if_pos (by decide +kernel)]; kernel_rfl) | (rw [if_neg (by decide +kernel)]; exact ⟨rfl, rfl⟩))
    (fun os started H enc _ => lifted8 os started H enc)
#print axioms acts_freely
end Go.Proofs.Yteplfcgofnfciaa

