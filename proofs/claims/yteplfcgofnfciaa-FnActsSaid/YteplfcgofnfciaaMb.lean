/-
  An evaluator of code over typed states, and why it is sound, part 2. No conditions.
-/
import Derived.Test.YteplfcgofnfciaaMa
import Derived.Laws.BytesArg
import Derived.Orders
import Derived.KernelRfl
set_option linter.unusedVariables false
set_option linter.unusedSimpArgs false
namespace Go.Pm
open Go.RowKit

section
variable {P : Program} {X : Nat → Prop} {w0 : World} {ρ0 : P0} {mn : List Nat} {nt : Nat} {s : St} {ρ : Pl} {a : Act} {w : World} {oper : Oper}

theorem max_fold (k : IntKind) : ∀ (us : List Value) (vs : List V) (x n : Int), us.length = vs.length → (∀ (j : Nat) v u, vs[j]? = some v → us[j]? = some u → VR (getO s.o) ρ w (BO X (getO s.o) ρ) v u) → fold2 max2 k x vs = some n →
    (us.foldlM Builtin.max2 (.int k x) : Sem Value).run P w = .ok (.int k n) w
  | [], [], x, n, _, _, hf => by
    simp only [fold2] at hf; cases hf; rfl
  | u :: us, v :: vs, x, n, hl, hr, hf => by
    have h0 := hr 0 v u rfl rfl
    unfold fold2 at hf
    split at hf
    · cases ‹_ :: _ = []›
    · rename_i k' b r e
      obtain ⟨rfl, rfl⟩ := List.cons.inj e
      obtain ⟨hk, hf1⟩ := cond_some hf
      obtain ⟨rfl, _⟩ := VR_p h0
      simp only [List.foldlM_cons, Builtin.max2, Sem.run_bind, Sem.run_pure, Result.andThen_ok]
      have := max_fold k us vs (max2 _ b) n (by simpa using hl) (fun j v u hv hu => hr (j + 1) v u (by simpa using hv) (by simpa using hu)) hf1
      exact this
    · cases hf
  | [], _ :: _, _, _, hl, _, _ => by simp at hl
  | _ :: _, [], _, _, hl, _, _ => by simp at hl
theorem min_fold (k : IntKind) : ∀ (us : List Value) (vs : List V) (x n : Int), us.length = vs.length → (∀ (j : Nat) v u, vs[j]? = some v → us[j]? = some u → VR (getO s.o) ρ w (BO X (getO s.o) ρ) v u) → fold2 min2 k x vs = some n →
    (us.foldlM Builtin.min2 (.int k x) : Sem Value).run P w = .ok (.int k n) w
  | [], [], x, n, _, _, hf => by
    simp only [fold2] at hf; cases hf; rfl
  | u :: us, v :: vs, x, n, hl, hr, hf => by
    have h0 := hr 0 v u rfl rfl
    unfold fold2 at hf
    split at hf
    · cases ‹_ :: _ = []›
    · rename_i k' b r e
      obtain ⟨rfl, rfl⟩ := List.cons.inj e
      obtain ⟨hk, hf1⟩ := cond_some hf
      obtain ⟨rfl, _⟩ := VR_p h0
      simp only [List.foldlM_cons, Builtin.min2, Sem.run_bind, Sem.run_pure, Result.andThen_ok]
      have := min_fold k us vs (min2 _ b) n (by simpa using hl) (fun j v u hv hu => hr (j + 1) v u (by simpa using hv) (by simpa using hu)) hf1
      exact this
    · cases hf
  | [], _ :: _, _, _, hl, _, _ => by simp at hl
  | _ :: _, [], _, _, hl, _, _ => by simp at hl

theorem args_rel (h : Inv X w0 ρ0 mn nt s ρ a w) (xs : List Operand) : (xs.map a.eval).length = (xs.map s.ev).length ∧ ∀ (j : Nat) v u, (xs.map s.ev)[j]? = some v → (xs.map a.eval)[j]? = some u → VR (getO s.o) ρ w (BO X (getO s.o) ρ) v u := by
  refine ⟨by simp, fun j v u hv hu => ?_⟩
  rw [List.getElem?_map] at hv hu
  cases hx : xs[j]? with
  | none => rw [hx] at hv; cases hv
  | some x =>
    rw [hx] at hv hu
    cases hv; cases hu
    exact h.ev x

theorem run_conv (h : Inv X w0 ρ0 mn nt s ρ a w) {t t' : TypeId} {td td' : TD} (htd : chkTD P t td = true) (htd' : chkTD P t' td' = true) {vx : V} {ux : Value} {e : Eff}
    (he : pmConvert td td' (getO s.o) vx some = some e) (hx : VR (getO s.o) ρ w (BO X (getO s.o) ρ) vx ux) :
    ∃ v, e = pv v ∧ v.oneCell' = true ∧ (convert t t' ux).run P w = .ok v w := by
  unfold pmConvert at he
  split at he
  · rename_i k0 z0 k z k1 n
    cases he
    obtain ⟨rfl, _⟩ := VR_p hx
    obtain ⟨_, i, d, hi, hz, hs, hu, ha, hk⟩ := okOne htd
    obtain ⟨_, i', d', hi', hz', hs', hu', ha', hk'⟩ := okOne htd'
    cases d' <;> simp [kindOk] at hk'
    subst hk'
    refine ⟨_, rfl, rfl, ?_⟩
    simp [convert, run_underlying hu, run_underlying hu', Conv.intToInt]
  · rename_i z0 z b
    cases he
    obtain ⟨rfl, _⟩ := VR_p hx
    obtain ⟨_, i, d, hi, hz, hs, hu, ha, hk⟩ := okOne htd
    obtain ⟨_, i', d', hi', hz', hs', hu', ha', hk'⟩ := okOne htd'
    cases d' <;> simp [kindOk] at hk'
    refine ⟨_, rfl, rfl, ?_⟩
    simp [convert, run_underlying hu, run_underlying hu']
  · rename_i e0 z y
    split at he
    · rename_i bs hbs
      cases he
      obtain ⟨hu, hel, _⟩ := okSlice htd
      obtain ⟨_, i', d', hi', hz', hs', hu', ha', hk'⟩ := okOne htd'
      have hk' : d' = .string := by cases d' <;> simp [kindOk] at hk' ⊢
      subst hk'
      obtain ⟨i0, d0, hi0, hz0, hs0, hb0, hu0, ha0⟩ := okEl hel
      have hu8 := okElInt hel
      obtain ⟨A, m, c, rfl, hm, cs, hf, hA⟩ := src_flat h hbs hx
      refine ⟨_, rfl, rfl, ?_⟩
      rw [run_convert_bytes_string w t t' e0 A m c hu hu8 hu']
      by_cases h0 : 0 < m
      · obtain ⟨b, o, rfl, hcell⟩ := hA h0
        have hsz : cs.length = m := by
          have := hf.1
          rw [hm] at this
          exact this.trans (Nat.mul_one m)
        have hcs : cs = bs.map (Value.int .u8) := by
          apply List.ext_getElem?
          intro j
          rw [List.getElem?_map]
          by_cases hj : j < m
          · have hj' : j < bs.length := by rw [hm]; exact hj
            have := hf.2.2 j hj'
            simp only [ElR, Ty.sz, Nat.mul_one, Nat.add_zero] at this
            rw [this, List.getElem?_eq_getElem hj']
            rfl
          · rw [List.getElem?_eq_none (by rw [hsz]; omega), List.getElem?_eq_none (by rw [hm]; omega)]
            rfl
        have hl : (loadCells ⟨b, o, none⟩ m).run P w = .ok (bs.map (Value.int .u8)).toArray w := by
          have := run_loadCells_list (P := P) w ⟨b, o, none⟩ cs (fun j v hj => by rw [addr_add]; exact hcell j v hj)
          rw [hsz, hcs] at this
          exact this
        rw [run_bytesToString w _ m c bs hl, foldl_push_bytes]
        simp [ofBytes, ByteArray.empty, ByteArray.emptyWithCapacity]
        rfl
      · have hb : bs = [] := List.eq_nil_of_length_eq_zero (by omega)
        have hm0 : m = 0 := by omega
        subst hb; subst hm0
        cases A with
        | none => rfl
        | some A =>
          rw [run_bytesToString w A 0 c [] (by simp [loadCells, loadCellsFrom])]
          rfl
    · cases he
  · cases he

theorem cap_ids (h : Inv X w0 ρ0 mn nt s ρ a w) : ∀ (xs : List Operand) (ids : List Nat), capIds (xs.map s.ev) = some ids → (xs.map a.eval).length = ids.length ∧
    ∀ (j : Nat) (id : Nat) (c : Value), ids[j]? = some id → (xs.map a.eval)[j]? = some c → match getO s.o id with
      | some (some x) => PtR (ρ id) x 0 0 c
      | some none => c.oneCell' = true
      | none => False
  | [], ids, hi => by
    simp only [List.map_nil, capIds] at hi
    cases hi
    exact ⟨rfl, fun j id c hj => by simp at hj⟩
  | x :: xs, ids, hi => by
    have hx := h.ev x
    rw [List.map_cons] at hi
    unfold capIds at hi
    split at hi
    · cases ‹_ :: _ = []›
    · rename_i id i f r e
      obtain ⟨e1, rfl⟩ := List.cons.inj e
      obtain ⟨hk, hi1⟩ := cond_some hi
      simp only [Bool.and_eq_true, decide_eq_true_eq] at hk
      obtain ⟨rfl, hf⟩ := hk
      have hf := Nat.eq_of_beq_eq_true hf
      subst hf
      split at hi1
      · rename_i as has
        cases hi1
        obtain ⟨hl, hr⟩ := cap_ids h xs as has
        refine ⟨by simp at hl ⊢; exact hl, fun j id' c hj hc => ?_⟩
        match j, hj, hc with
        | 0, hj, hc =>
          cases hj; cases hc
          rw [e1] at hx
          exact hx
        | j + 1, hj, hc => exact hr j id' c (by simpa using hj) (by simpa using hc)
      · cases hi1
    · cases hi

theorem opEff_sound {td : TypeId → TD} (htd : ∀ t, chkTD P t (td t) = true) (C : Orc) (h : Inv X w0 ρ0 mn nt s ρ a w) (hd : ∀ d, oper.dst = some d → d < nt) {e : Eff}
    (he : opEff td C mn oper s.ev (getO s.o) some = some e) (hcall : ∀ c f, oper.op = .call c → c.callee = .value f → Does P X w0 ρ0 mn nt s e oper a w) : Does P X w0 ρ0 mn nt s e oper a w := by
  unfold opEff at he
  split at he
  · rename_i x ho
    cases he
    exact does_val h hd (u := a.eval x) (by unfold execOp; simp only [ho]; rfl) (h.ev x)
  · rename_i x ho
    cases he
    exact does_val h hd (u := a.eval x) (by unfold execOp; simp only [ho]; rfl) (h.ev x)
  · rename_i c x y ho
    have hc := h.ev c
    split at he
    · rename_i t hct
      rw [hct] at hc
      obtain ⟨hc, _⟩ := VR_p hc
      cases t with
      | true =>
        cases he
        exact does_val h hd (u := a.eval x) (by unfold execOp; simp [ho, hc, asBool]) (h.ev x)
      | false =>
        cases he
        exact does_val h hd (u := a.eval y) (by unfold execOp; simp [ho, hc, asBool]) (h.ev y)
    · cases he
  · rename_i t ho
    obtain ⟨h1, he1⟩ := cond_some he
    obtain ⟨d, hd', hdm, hdo, rfl⟩ := pmNew_some he1
    have h1 := Nat.le_of_ble_eq_true h1
    have hne : td t ≠ .other := by intro hc; rw [hc] at h1; simp [TD.cells] at h1
    obtain ⟨i, u, hi, hs, hu, ha, hone, z, hz, hzc⟩ := okCells (htd t) hne
    refine does_box (cs := z.cells) h hd hd' hdm hdo (by rw [hzc]; exact AgR_zero hone) ?_
    unfold execOp
    simp only [ho, Instr.alloc, Sem.run_bind, run_zeroValue hi hz, Result.andThen_ok, newVar, Sem.run_pure]
    simp [newRow]
  · rename_i t x ho
    split at he
    · rename_i ls hls
      obtain ⟨h1, he1⟩ := cond_some he
      obtain ⟨d, hd', hdm, hdo, rfl⟩ := pmNew_some he1
      simp only [Bool.and_eq_true, Bool.not_eq_true'] at h1
      have hr := leavesV_rel hls h1.2 (h.ev x)
      refine does_box h hd hd' hdm hdo hr ?_
      unfold execOp
      simp only [ho, Instr.box, Sem.run_bind, Result.andThen_ok, newVar, Sem.run_pure]
      simp [newRow]
    · cases he
  · rename_i t ps ho
    split at he
    · rename_i hag
      split at he
      · rename_i ls hls
        cases he
        exact does_lit h hd (htd t) hag ho hls
      · cases he
    · cases he
  · rename_i t n ps ho
    split at he
    · rename_i e0 τ hτ
      have ht := htd t
      rw [hτ] at ht
      obtain ⟨h1, he1⟩ := cond_some he
      simp only [Bool.and_eq_true] at h1
      split at he1
      · rename_i xs hxs
        obtain ⟨d, hd', hdm, hdo, rfl⟩ := pmNew_some he1
        exact does_slit h hd ht ho (Nat.eq_of_beq_eq_true h1.1) (Nat.le_of_ble_eq_true h1.2) hxs _ (fun p hp id hid => by
          rw [List.mem_eraseDups]; exact List.mem_flatMap.2 ⟨p, hp, hid⟩) hd' hdm hdo
      · cases he1
    · cases he
  · rename_i t x ho
    obtain ⟨v', u', rfl, hv, hr⟩ := run_ld h (htd t) he (h.ev x)
    exact does_val h hd (by unfold execOp; simp only [ho, Sem.run_bind, hr, Result.andThen_ok, Sem.run_pure]) hv
  · rename_i t x y ho
    exact does_store h hd (htd t) ho he
  · rename_i x ho
    have hx := h.ev x
    split at he
    · rename_i id i f hv
      split at he
      · rename_i y hy
        cases he
        rw [hv] at hx
        refine does_val h hd (u := a.eval x) ?_ hx
        simp only [VR, LR, hy] at hx
        have : ∃ g, a.eval x = .pointer (some g) := by
          cases y with
          | row => obtain ⟨_, _, g, c, _, e⟩ := hx; exact ⟨_, e⟩
          | box => obtain ⟨_, g, c, _, e⟩ := hx; exact ⟨_, e⟩
        obtain ⟨g, hg⟩ := this
        unfold execOp
        simp [ho, hg]
      · cases he
    · rename_i f caps hv
      cases he
      rw [hv] at hx
      obtain ⟨us, hu, _⟩ := id hx
      refine does_val h hd (u := a.eval x) ?_ hx
      unfold execOp
      simp [ho, hu]
    · cases he
  · rename_i op t x y z ho
    obtain ⟨v, rfl, h1, hr⟩ := run_bin (htd t) op x y he (h.ev x) (h.ev y)
    refine does_val h hd (u := v) ?_ ⟨rfl, h1⟩
    unfold execOp
    simp only [ho]
    rw [Sem.run_bind, hr]
    rfl
  · rename_i op t x ho
    obtain ⟨v, rfl, h1, hr⟩ := run_un (P := P) op he (h.ev x)
    exact does_val h hd (u := v) (by unfold execOp; simp only [ho, Sem.run_bind, hr, Result.andThen_ok, Sem.run_pure]) ⟨rfl, h1⟩
  · rename_i t t' x ho
    obtain ⟨v, rfl, h1, hr⟩ := run_conv h (htd t) (htd t') he (h.ev x)
    exact does_val h hd (u := v) (by unfold execOp; simp only [ho, Sem.run_bind, hr, Result.andThen_ok, Sem.run_pure]) ⟨rfl, h1⟩
  · rename_i fn first caps ho
    split at he
    · rename_i f
      obtain ⟨h1, he1⟩ := cond_some he
      split at he1
      · rename_i ids hids
        cases he1
        obtain ⟨hl, hr⟩ := cap_ids h caps.toList ids hids
        have hf : first = #[] := by simpa using h1
        subst hf
        refine does_val h hd (u := .func (.func f) #[] (caps.map a.eval)) ?_ ⟨caps.toList.map a.eval, ?_, hl, hr⟩
        · unfold execOp
          simp only [ho, Instr.makeFunc, Sem.run_bind, Sem.run_pure, Result.andThen_ok, List.map_toArray, List.map_nil]
        · rw [← Array.toList_map]
      · cases he1
    · cases he
  · rename_i t x y ho
    split at he
    · rename_i e0 τ hτ
      have ht := htd t
      rw [hτ] at ht
      have hx := h.ev x
      have hy := h.ev y
      unfold asInt at he
      split at he
      · rename_i kl n hvx
        split at he
        · rename_i kc m hvy
          obtain ⟨⟨rfl, h0, h1⟩, he1⟩ := chk_some he
          obtain ⟨d, hd', hdm, hdo, rfl⟩ := pmNew_some he1
          rw [hvx] at hx
          rw [hvy] at hy
          exact does_make h hd ht ho (VR_p hx).1 (VR_p hy).1 h0 h1 hd' hdm hdo
        · cases he
      · cases he
    · cases he
  · rename_i t x lo hi mx ho
    obtain ⟨v', u', rfl, hv, hr⟩ := run_sl h (htd t) he (h.ev x)
    exact does_val h hd (by unfold execOp; simp only [ho, Sem.run_bind, hr, Result.andThen_ok, Sem.run_pure]) hv
  · rename_i t x k ho
    have hx := h.ev x
    split at he
    · rename_i f n hk
      split at he
      · rename_i id i g hv
        split at he
        · rename_i y hy
          cases he
          rw [hv] at hx
          simp only [VR, LR, hy] at hx
          have : ∃ b c, a.eval x = .pointer (some ⟨b, c, none⟩) ∧ PtR (ρ id) y i (g + f) (.pointer (some ⟨b, c + f, none⟩)) := by
            cases y with
            | row e t xs => obtain ⟨h1, h2, g', c, h3, e⟩ := hx; exact ⟨_, _, e, h1, h2, g', c, h3, by rw [Nat.add_assoc]⟩
            | box => obtain ⟨h1, g', c, h3, e⟩ := hx; exact ⟨_, _, e, h1, g', c, h3, rfl⟩
          obtain ⟨b, c, e, hp⟩ := this
          refine does_val h hd (u := .pointer (some ⟨b, c + f, none⟩)) ?_ (by simp only [VR, LR, hy]; exact hp)
          unfold execOp
          simp only [ho, e, Sem.run_bind, run_fieldAt (htd t) hk, Result.andThen_ok, Sem.run_pure]
        · cases he
      · rename_i τ y g hv
        cases he
        rw [hv] at hx
        obtain ⟨b, k0, e, h1, h2, h3⟩ := hx
        refine does_val h hd (u := .pointer (some ⟨b, k0 + g + f, none⟩)) ?_ ⟨b, k0, by rw [Nat.add_assoc], h1, h2, h3⟩
        unfold execOp
        simp only [ho, e, Sem.run_bind, run_fieldAt (htd t) hk, Result.andThen_ok, Sem.run_pure]
      · cases he
    · cases he
  · rename_i t x ix ho
    split at he
    · rename_i e0 τ hτ
      have ht := htd t
      rw [hτ] at ht
      obtain ⟨v', u', rfl, hv, hr⟩ := run_ixa h ht he (h.ev x) (h.ev ix)
      exact does_val h hd (by unfold execOp; simp only [ho, Sem.run_bind, hr, Result.andThen_ok, Sem.run_pure]) hv
    · cases he
  · rename_i t x ix ho
    have hx := h.ev x
    have hi := h.ev ix
    unfold pmIndex at he
    split at he
    · rename_i z k i b hz hvi hvx
      obtain ⟨⟨h0, h1⟩, he1⟩ := chk_some he
      cases he1
      rw [hvx] at hx
      rw [hvi] at hi
      have ht := htd t
      rw [hz] at ht
      obtain ⟨_, i', d', hi', hz', hs', hu', ha', hk'⟩ := okOne ht
      have hk' : d' = .string := by cases d' <;> simp [kindOk] at hk' ⊢
      subst hk'
      refine does_val h hd (u := .int .u8 (byteAt b i)) ?_ ⟨rfl, rfl⟩
      have hlt : i.toNat < b.size := by omega
      have e1 : b[i.toNat]? = some b[i.toNat] := by simp [hlt]
      have e2 : (b[i.toNat].toNat : Int) = byteAt b i := by
        unfold byteAt
        rw [List.getD_eq_getElem?_getD, List.getElem?_eq_getElem (by rw [Array.length_toList]; exact hlt)]
        rfl
      unfold execOp
      simp only [ho, (VR_p hx).1, (VR_p hi).1, Instr.index, asIntOf, Sem.run_bind, Sem.run_pure, Result.andThen_ok, run_underlying hu', if_pos h0, e1, e2]
    · cases he
  · rename_i x k ho
    have hx := h.ev x
    split at he
    · rename_i vs hvs
      rw [hvs] at hx
      obtain ⟨us, hu, hl, hr⟩ := hx
      have run : ∀ u, us[k]? = some u → (execOp a.eval oper).run P w = .ok (.value u) w := by
        intro u hk
        unfold execOp
        simp only [ho, hu, Instr.extract, hk, Sem.run_bind, Sem.run_pure, Result.andThen_ok]
      have ex : ∀ x, vs[k]? = some x → ∃ u, us[k]? = some u ∧ TuR (getO s.o) ρ w (BO X (getO s.o) ρ) x u := by
        intro x hk
        have hlt : k < us.size := by rw [hl]; exact (List.getElem?_eq_some_iff.1 hk).1
        exact ⟨us[k], Array.getElem?_eq_getElem hlt, hr k x _ hk (Array.getElem?_eq_getElem hlt)⟩
      split at he
      · rename_i ls hk
        cases he
        obtain ⟨u, h1, h2⟩ := ex _ hk
        exact does_val h hd (run u h1) h2
      · rename_i y hk
        cases he
        obtain ⟨u, h1, h2⟩ := ex _ hk
        exact does_val h hd (run u h1) h2
      · cases he
    · cases he
  · rename_i c ho
    obtain ⟨callee, args, argTypes⟩ := c
    simp only at he
    split at he
    · -- len
      split at he
      · rename_i x t hx ht
        have hx' : args = #[x] := Array.ext' hx
        have ht' : argTypes = #[t] := Array.ext' ht
        subst hx' ht'
        obtain ⟨v, rfl, h1, hr⟩ := run_len (ty := oper.type) h (htd t) he (h.ev x)
        refine does_val h hd (u := v) ?_ ⟨rfl, h1⟩
        unfold execOp
        simp only [ho, resolve, invoke, builtin, Sem.run_bind, Sem.run_pure, Result.andThen_ok, List.map_toArray, List.map_cons, List.map_nil, hr]
      · cases he
    · -- append
      split at he
      · rename_i x y t t' hx ht
        obtain ⟨h1, he1⟩ := cond_some he
        have h1 := Nat.eq_of_beq_eq_true h1
        subst h1
        have hx' : args = #[x, y] := Array.ext' hx
        have ht' : argTypes = #[t, t] := Array.ext' ht
        subst hx' ht'
        split at he1
        · rename_i e0 τ hτ
          have ht := htd t
          rw [hτ] at ht
          exact does_append h hd ht ho he1
        · cases he1
      · cases he
    · -- max
      obtain ⟨hl, hr⟩ := args_rel h args.toList
      unfold pmMinMax at he
      split at he
      · rename_i k x r hv
        split at he
        · rename_i n hn
          cases he
          cases hus : args.toList.map a.eval with
          | nil => rw [hus, hv] at hl; simp at hl
          | cons u us =>
            rw [hus, hv] at hl hr
            have hu := (VR_p (hr 0 _ u rfl rfl)).1
            have hf := max_fold (P := P) (s := s) (ρ := ρ) (w := w) k us r x n (by simpa using hl) (fun j v u hv hu => hr (j + 1) v u (by simpa using hv) (by simpa using hu)) hn
            refine does_val h hd (u := .int k n) ?_ ⟨rfl, rfl⟩
            have e1 : (args.map a.eval).toList = u :: us := by rw [Array.toList_map, hus]
            unfold execOp
            simp only [ho, resolve, invoke, builtin, Sem.run_bind, Sem.run_pure, Result.andThen_ok, Builtin.max_, e1, hu, hf]
        · cases he
      · cases he
    · -- min
      obtain ⟨hl, hr⟩ := args_rel h args.toList
      unfold pmMinMax at he
      split at he
      · rename_i k x r hv
        split at he
        · rename_i n hn
          cases he
          cases hus : args.toList.map a.eval with
          | nil => rw [hus, hv] at hl; simp at hl
          | cons u us =>
            rw [hus, hv] at hl hr
            have hu := (VR_p (hr 0 _ u rfl rfl)).1
            have hf := min_fold (P := P) (s := s) (ρ := ρ) (w := w) k us r x n (by simpa using hl) (fun j v u hv hu => hr (j + 1) v u (by simpa using hv) (by simpa using hu)) hn
            refine does_val h hd (u := .int k n) ?_ ⟨rfl, rfl⟩
            have e1 : (args.map a.eval).toList = u :: us := by rw [Array.toList_map, hus]
            unfold execOp
            simp only [ho, resolve, invoke, builtin, Sem.run_bind, Sem.run_pure, Result.andThen_ok, Builtin.min_, e1, hu, hf]
        · cases he
      · cases he
    · rename_i f
      exact hcall _ f ho rfl
    · cases he
  · cases he
end
end Go.Pm

set_option linter.unusedVariables false
set_option linter.unusedSimpArgs false
namespace Go.Pm
open Go.RowKit

theorem nmGet_cons (k v : Nat) (m : Nm) (n : Nat) : nmGet ((k, v) :: m) n = if k = n then some v else nmGet m n := by
  simp only [nmGet]
  cases hb : Nat.beq k n with
  | true => simp [Nat.eq_of_beq_eq_true hb]
  | false =>
    have : k ≠ n := fun h => by subst h; simp at hb
    simp [this]
theorem nmGet_mem {m : Nm} {n v : Nat} (h : nmGet m n = some v) : (n, v) ∈ m := by
  induction m with
  | nil => cases h
  | cons p r ih =>
    obtain ⟨k, u⟩ := p
    rw [nmGet_cons] at h
    split at h
    · rename_i e; cases h; subst e; exact List.mem_cons_self
    · exact List.mem_cons_of_mem _ (ih h)
theorem addN_some {m m' : Nm} {k v : Nat} (h : addN m k v = some m') : m' = (k, v) :: m ∧ ∀ n, nmGet m n ≠ some v := by
  unfold addN at h
  obtain ⟨h1, h2⟩ := cond_some' h
  cases h2
  refine ⟨rfl, fun n hn => ?_⟩
  have := List.mem_map_of_mem (f := (·.2)) (nmGet_mem hn)
  rw [← List.contains_iff_mem] at this
  exact absurd this (by rw [h1]; simp)
theorem isAct_lt {a : Nat} : isAct a = true ↔ a < 1000000000000 := by
  unfold isAct
  rw [Bool.not_eq_true', ← Bool.not_eq_true, Nat.ble_eq]
  omega
theorem isAct_nl (n : Nat) : isAct (nlN n) = false := by
  cases h : isAct (nlN n) with
  | false => rfl
  | true => have := isAct_lt.1 h; unfold nlN at this; omega

def Inj (m : Nm) : Prop := ∀ k k' v, nmGet m k = some v → nmGet m k' = some v → k = k'
def KeyOk (m : Nm) : Prop := ∀ n v, nmGet m n = some v → isAct v = true → isAct n = true
def MnOk (mn : List Nat) (m : Nm) : Prop := ∀ n v, nmGet m n = some v → n ∈ mn → v = n
structure Step (mn : List Nat) (m m' : Nm) : Prop where
  mono : ∀ k v, nmGet m k = some v → nmGet m' k = some v
  mark : ∀ id, nmGet m (mkN id) = none → nmGet m' (mkN id) ≠ none → ∀ k, nmGet m k ≠ some id
  inj : Inj m → Inj m'
  mnok : MnOk mn m → MnOk mn m'
  keyok : KeyOk m → KeyOk m'
theorem Step.refl (mn : List Nat) (m : Nm) : Step mn m m := ⟨fun _ _ h => h, fun _ h1 h2 => absurd h1 h2, id, id, id⟩
theorem Step.trans {mn : List Nat} {m m' m'' : Nm} (h : Step mn m m') (k : Step mn m' m'') : Step mn m m'' := by
  refine ⟨fun a v ha => k.mono a v (h.mono a v ha), fun id h1 h2 j hj => ?_, fun hi => k.inj (h.inj hi), fun hi => k.mnok (h.mnok hi), fun hi => k.keyok (h.keyok hi)⟩
  cases hm : nmGet m' (mkN id) with
  | none => exact k.mark id hm h2 j (h.mono j id hj)
  | some v => exact h.mark id h1 (by rw [hm]; simp) j hj
theorem inj_add {m : Nm} {k v : Nat} (hv : ∀ n, nmGet m n ≠ some v) (hi : Inj m) : Inj ((k, v) :: m) := by
  intro a b u ha hb
  rw [nmGet_cons] at ha hb
  split at ha <;> split at hb
  · rename_i e1 e2; exact e1.symm.trans e2
  · cases ha; exact absurd hb (hv b)
  · cases hb; exact absurd ha (hv a)
  · exact hi a b u ha hb
theorem step_add {mn : List Nat} {m m' : Nm} {k v : Nat} (h : addN m k v = some m') (hk : nmGet m k = none) (ha : isAct k = true) (hmn : k ∈ mn → v = k) : Step mn m m' := by
  obtain ⟨rfl, hv⟩ := addN_some h
  have hlt := isAct_lt.1 ha
  refine ⟨fun a u hau => ?_, fun id h1 h2 => ?_, inj_add hv, fun hm n u hn hnm => ?_, fun hm n u hn hu => ?_⟩
  · rw [nmGet_cons, if_neg (fun e => by subst e; rw [hk] at hau; cases hau)]
    exact hau
  · rw [nmGet_cons, if_neg (by unfold mkN; omega)] at h2
    exact absurd h1 h2
  · rw [nmGet_cons] at hn
    split at hn
    · rename_i e; cases hn; subst e; exact hmn hnm
    · exact hm n u hn hnm
  · rw [nmGet_cons] at hn
    split at hn
    · rename_i e; subst e; exact ha
    · exact hm n u hn hu
theorem bindN_ok {mn : List Nat} {m m' : Nm} {n a : Nat} (h : bindN mn m n a = some m') : Step mn m m' ∧ nmGet m' n = some a ∧ isAct a = true ∧ (nmGet m n = none → m' = (n, a) :: m ∧ (∀ k, nmGet m k ≠ some a) ∧ isAct n = true) ∧ (∀ id, nmGet m (mkN id) = none → nmGet m' (mkN id) = none) := by
  unfold bindN at h
  split at h
  · rename_i v hv
    obtain ⟨h1, h2⟩ := cond_some h
    cases h2
    simp only [Bool.and_eq_true] at h1
    have e := Nat.eq_of_beq_eq_true h1.1
    subst e
    exact ⟨Step.refl mn m, hv, h1.2, (fun hn => by rw [hn] at hv; cases hv), fun _ h => h⟩
  · rename_i hn
    obtain ⟨h1, h2⟩ := cond_some h
    simp only [Bool.and_eq_true, Bool.not_eq_true', Bool.and_eq_false_iff] at h1
    obtain ⟨⟨h3, h4⟩, h5⟩ := h1
    obtain ⟨rfl, hv⟩ := addN_some h2
    refine ⟨step_add h2 hn h4 fun hm => ?_, by rw [nmGet_cons, if_pos rfl], h3, fun _ => ⟨rfl, hv, h4⟩, fun id hid => ?_⟩
    · rcases h5 with h5 | h5
      · have := List.contains_iff_mem.2 hm
        rw [h5] at this; cases this
      · simp only [Bool.not_eq_false'] at h5
        exact (Nat.eq_of_beq_eq_true h5).symm
    · have := isAct_lt.1 h4
      rw [nmGet_cons, if_neg (by unfold mkN; omega)]
      exact hid
/-- bound, and not cut short -/
def Bnd (m : Nm) (n id : Nat) : Prop := nmGet m n = some id ∧ isAct id = true ∧ nmGet m (mkN id) = none
theorem Bnd.later {mn : List Nat} {m m' : Nm} {n id : Nat} (h : Bnd m n id) (k : Step mn m m') : Bnd m' n id := by
  refine ⟨k.mono _ _ h.1, h.2.1, ?_⟩
  cases hm : nmGet m' (mkN id) with
  | none => rfl
  | some v => exact absurd h.1 (k.mark id h.2.2 (by rw [hm]; simp) n)
theorem bindW_ok {mn : List Nat} {m m' : Nm} {n a : Nat} (h : bindW mn m n a = some m') : Step mn m m' ∧ Bnd m' n a := by
  unfold bindW at h
  split at h
  · cases h
  · rename_i hk
    obtain ⟨h1, h2, h3, _, h5⟩ := bindN_ok h
    exact ⟨h1, h2, h3, h5 a hk⟩
theorem bindAll_ok {mn : List Nat} : ∀ {ns as : List Nat} {m m' : Nm}, bindAll mn m ns as = some m' → Step mn m m' ∧ ns.length = as.length ∧ ∀ (j n a : Nat), ns[j]? = some n → as[j]? = some a → Bnd m' n a
  | [], [], m, m', h => by
    simp only [bindAll] at h
    cases h
    exact ⟨Step.refl mn m, rfl, fun j n a hj => by simp at hj⟩
  | n :: ns, a :: as, m, m', h => by
    simp only [bindAll] at h
    cases h1 : bindW mn m n a with
    | none => rw [h1] at h; cases h
    | some m1 =>
      rw [h1] at h
      obtain ⟨h2, h3⟩ := bindW_ok h1
      obtain ⟨h4, h5, h6⟩ := bindAll_ok (ns := ns) (as := as) h
      refine ⟨h2.trans h4, by simp [h5], fun j n' a' hj ha => ?_⟩
      match j, hj, ha with
      | 0, hj, ha => cases hj; cases ha; exact h3.later h4
      | j + 1, hj, ha => exact h6 j n' a' (by simpa using hj) (by simpa using ha)
  | [], _ :: _, _, _, h => by simp [bindAll] at h
  | _ :: _, [], _, _, h => by simp [bindAll] at h

def NmOk (mn : List Nat) (m : Nm) (name : Nat) (s : LS) (x : L) : Prop :=
  match s, x with
  | .own _ _, .rw id none => nmGet m name = some id ∧ isAct id = true
  | .own _ _, .rw id (some _) => nmGet m name = some id ∧ isAct id = true ∧ nmGet m (mkN id) ≠ none ∧ name ∉ mn
  | .own _ _, .nil => nmGet m name = some (nlN name) ∧ name ∉ mn
  | .own _ _, _ => False
  | .al n, .rw id none => Bnd m n id
  | .al _, _ => False
  | .ptr n, .ptr id i f => i = 0 ∧ f = 0 ∧ Bnd m n id
  | .ptr _, _ => False
  | .fn f ns, .fn g as => f = g ∧ ns.length = as.length ∧ ∀ (j n a : Nat), ns[j]? = some n → as[j]? = some a → Bnd m n a
  | .fn _ _, _ => False
  | _, _ => True
theorem NmOk.later {mn : List Nat} {m m' : Nm} (k : Step mn m m') {name : Nat} {s : LS} {x : L} (h : NmOk mn m name s x) : NmOk mn m' name s x := by
  unfold NmOk at h ⊢
  split at h
  · exact ⟨k.mono _ _ h.1, h.2⟩
  · obtain ⟨h1, h2, h3, h4⟩ := h
    refine ⟨k.mono _ _ h1, h2, ?_, h4⟩
    rename_i id _
    cases hm : nmGet m (mkN id) with
    | none => exact absurd hm h3
    | some v => rw [k.mono _ _ hm]; simp
  · exact ⟨k.mono _ _ h.1, h.2⟩
  · exact h.elim
  · exact h.later k
  · exact h.elim
  · exact ⟨h.1, h.2.1, h.2.2.later k⟩
  · exact h.elim
  · exact ⟨h.1, h.2.1, fun j n a hn ha => (h.2.2 j n a hn ha).later k⟩
  · exact h.elim
  · trivial
theorem decN_ok {mn : List Nat} {name : Nat} {s : LS} {x : L} {m m' : Nm} (h : decN mn name s x m = some m') : Step mn m m' ∧ NmOk mn m' name s x := by
  unfold decN at h
  split at h
  · obtain ⟨h1, h2, h3, _⟩ := bindN_ok h
    exact ⟨h1, h2, h3⟩
  · rename_i e t id win
    split at h
    · rename_i hn hk
      obtain ⟨hm, h1⟩ := cond_some' h
      cases hb : bindN mn m name id with
      | none => rw [hb] at h1; cases h1
      | some m1 =>
        rw [hb] at h1
        obtain ⟨h2, h3, h4, h5, h6⟩ := bindN_ok hb
        obtain ⟨rfl, h7, h9⟩ := h5 hn
        obtain ⟨rfl, h8⟩ := addN_some h1
        have hlt := isAct_lt.1 h9
        refine ⟨⟨fun k v hkv => ?_, fun id' h10 h11 k hk' => ?_, fun hi => inj_add h8 (h2.inj hi), fun hi n v hn' hnm => ?_, fun hi n v hn' hv => ?_⟩, ?_⟩
        · rw [nmGet_cons, if_neg (fun e => by subst e; rw [hk] at hkv; cases hkv)]
          exact h2.mono k v hkv
        · rw [nmGet_cons] at h11
          split at h11
          · rename_i e
            have : id = id' := by unfold mkN at e; omega
            subst this
            exact h7 k hk'
          · exact h11 (h6 id' h10)
        · rw [nmGet_cons] at hn'
          split at hn'
          · rename_i e; cases hn'; exact e
          · exact h2.mnok hi n v hn' hnm
        · rw [nmGet_cons] at hn'
          split at hn'
          · rename_i e; cases hn'; have := isAct_lt.1 hv; unfold mkN at this; omega
          · exact h2.keyok hi n v hn' hv
        · refine ⟨?_, h4, by rw [nmGet_cons, if_pos rfl]; simp, fun hc => ?_⟩
          · rw [nmGet_cons, if_neg (by unfold mkN; omega)]; exact h3
          · rw [List.contains_iff_mem.2 hc] at hm; cases hm
    · cases h
  · split at h
    · cases h
    · rename_i hn
      obtain ⟨h1, h2⟩ := cond_some' h
      simp only [Bool.or_eq_false_iff, Bool.not_eq_false'] at h1
      obtain ⟨h3, h4⟩ := h1
      have hnm : name ∉ mn := fun hc => by rw [List.contains_iff_mem.2 hc] at h3; cases h3
      obtain ⟨rfl, hv⟩ := addN_some h2
      exact ⟨step_add h2 hn h4 fun hc => absurd hc hnm, by rw [nmGet_cons, if_pos rfl], hnm⟩
  · cases h
  · exact bindW_ok h
  · cases h
  · obtain ⟨h1, h2⟩ := cond_some h
    simp only [Bool.and_eq_true, decide_eq_true_eq] at h1
    obtain ⟨h3, h4⟩ := bindW_ok h2
    exact ⟨h3, h1.1, Nat.eq_of_beq_eq_true h1.2, h4⟩
  · cases h
  · obtain ⟨h1, h2⟩ := cond_some h
    obtain ⟨h3, h4⟩ := bindAll_ok h2
    exact ⟨h3, Nat.eq_of_beq_eq_true h1, h4⟩
  · cases h
  · cases h
    refine ⟨Step.refl mn m, ?_⟩
    unfold NmOk
    split <;> first | trivial | (exfalso; simp_all; done)
def NmOks (mn : List Nat) (m : Nm) (n : Nat) : (j : Nat) → List LS → List L → Prop
  | _, [], [] => True
  | j, s :: ss, x :: xs => NmOk mn m (sub2 n j) s x ∧ NmOks mn m n (j + 1) ss xs
  | _, _, _ => False
theorem NmOks.later {mn : List Nat} {m m' : Nm} (k : Step mn m m') {n : Nat} : ∀ {j : Nat} {ss : List LS} {xs : List L}, NmOks mn m n j ss xs → NmOks mn m' n j ss xs
  | _, [], [], _ => trivial
  | _, s :: ss, x :: xs, h => ⟨h.1.later k, NmOks.later k h.2⟩
  | _, [], _ :: _, h => h.elim
  | _, _ :: _, [], h => h.elim
theorem decNs_ok {mn : List Nat} {n : Nat} : ∀ {j : Nat} {ss : List LS} {xs : List L} {m m' : Nm}, decNs mn n j ss xs m = some m' → Step mn m m' ∧ NmOks mn m' n j ss xs
  | _, [], [], m, m', h => by
    simp only [decNs] at h
    cases h
    exact ⟨Step.refl mn m, trivial⟩
  | j, s :: ss, x :: xs, m, m', h => by
    simp only [decNs] at h
    cases h1 : decN mn (sub2 n j) s x m with
    | none => rw [h1] at h; cases h
    | some m1 =>
      rw [h1] at h
      obtain ⟨h2, h3⟩ := decN_ok h1
      obtain ⟨h4, h5⟩ := decNs_ok (ss := ss) (xs := xs) h
      exact ⟨h2.trans h4, h3.later h4, h5⟩
  | _, [], _ :: _, _, _, h => by simp [decNs] at h
  | _, _ :: _, [], _, _, h => by simp [decNs] at h
def ItOk (mn : List Nat) (tv : Nat → V) (O : Look) (m : Nm) : Item → Prop
  | .t slot ls => ∃ x, tv slot = .l x ∧ NmOk mn m slot ls x
  | .agg slot ls => ∃ xs, tv slot = .agg xs ∧ NmOks mn m slot 0 ls xs
  | .box n e ls => ∃ id xs, nmGet m n = some id ∧ isAct id = true ∧ O id = some (some (.box e xs)) ∧ NmOks mn m n 0 ls xs
  | .row n e t => ∃ id, nmGet m n = some id ∧ isAct id = true
theorem ItOk.later {mn : List Nat} {tv : Nat → V} {O : Look} {m m' : Nm} (k : Step mn m m') {i : Item} (h : ItOk mn tv O m i) : ItOk mn tv O m' i := by
  cases i with
  | t slot ls => obtain ⟨x, h1, h2⟩ := h; exact ⟨x, h1, h2.later k⟩
  | agg slot ls => obtain ⟨x, h1, h2⟩ := h; exact ⟨x, h1, h2.later k⟩
  | box n e ls => obtain ⟨id, xs, h1, h2, h3, h4⟩ := h; exact ⟨id, xs, k.mono _ _ h1, h2, h3, h4.later k⟩
  | row n e t => obtain ⟨id, h1, h2⟩ := h; exact ⟨id, k.mono _ _ h1, h2⟩
theorem names_ok {mn : List Nat} {tv : Nat → V} {O : Look} : ∀ {is : List Item} {m m' : Nm}, names mn tv O is m = some m' → Step mn m m' ∧ ∀ i ∈ is, ItOk mn tv O m' i
  | [], m, m', h => by
    simp only [names] at h
    cases h
    exact ⟨Step.refl mn m, fun i hi => by simp at hi⟩
  | i :: r, m, m', h => by
    have key : ∃ m1, Step mn m m1 ∧ ItOk mn tv O m1 i ∧ names mn tv O r m1 = some m' := by
      cases i with
      | t slot ls =>
        simp only [names] at h
        obtain ⟨h1, h2⟩ := cond_some h
        cases h3 : decN mn slot ls (leafV (tv slot)) m with
        | none => rw [h3] at h2; cases h2
        | some m1 =>
          rw [h3] at h2
          obtain ⟨h4, h5⟩ := decN_ok h3
          refine ⟨m1, h4, ?_, h2⟩
          unfold leafV at h5
          cases hv : tv slot with
          | l x => rw [hv] at h5; exact ⟨x, hv, h5⟩
          | agg xs => rw [hv] at h1; cases h1
          | tup xs => rw [hv] at h1; cases h1
      | agg slot ls =>
        simp only [names] at h
        obtain ⟨h1, h2⟩ := cond_some h
        cases h3 : decNs mn slot 0 ls (leavesVs (tv slot)) m with
        | none => rw [h3] at h2; cases h2
        | some m1 =>
          rw [h3] at h2
          obtain ⟨h4, h5⟩ := decNs_ok h3
          refine ⟨m1, h4, ?_, h2⟩
          unfold leavesVs at h5
          cases hv : tv slot with
          | l x => rw [hv] at h1; cases h1
          | agg xs => rw [hv] at h5; exact ⟨xs, hv, h5⟩
          | tup xs => rw [hv] at h1; cases h1
      | box n e ls =>
        simp only [names] at h
        split at h
        · rename_i id hid
          split at h
          · rename_i e' xs ho
            obtain ⟨h1, h2⟩ := cond_some h
            simp only [Bool.and_eq_true] at h1
            have e1 := Nat.eq_of_beq_eq_true h1.1
            subst e1
            cases h3 : decNs mn n 0 ls xs m with
            | none => rw [h3] at h2; cases h2
            | some m1 =>
              rw [h3] at h2
              obtain ⟨h4, h5⟩ := decNs_ok h3
              exact ⟨m1, h4, ⟨id, xs, h4.mono _ _ hid, h1.2, ho, h5⟩, h2⟩
          · cases h
        · cases h
      | row n e t =>
        simp only [names] at h
        split at h
        · rename_i id hid
          obtain ⟨h1, h2⟩ := cond_some h
          exact ⟨m, Step.refl mn m, ⟨id, hid, h1⟩, h2⟩
        · cases h
    obtain ⟨m1, h1, h2, h3⟩ := key
    obtain ⟨h4, h5⟩ := names_ok (is := r) h3
    refine ⟨h1.trans h4, fun j hj => ?_⟩
    rcases List.mem_cons.1 hj with rfl | hj
    · exact h2.later h4
    · exact h5 j hj
end Go.Pm

set_option linter.unusedVariables false
set_option linter.unusedSimpArgs false
namespace Go.Pm
open Go.RowKit

/-- a leaf as it was, a leaf as it is handed over -/
inductive LfOk (O : Look) (m : Nm) (os : Objs) : L → L → Prop
  | un (x : L) : LfOk O m os x .un
  | p (v : Value) : LfOk O m os (.p v) (.p v)
  | nil : LfOk O m os .nil .nil
  | ro (x : L) (t : Ty) (xs : List t.den) (h : contentOf O t x = some xs) (hn : ∀ id ∈ rwIdsL x, id ∉ m.map (·.2)) : LfOk O m os x (.ro t xs false)
  | own (id name : Nat) (e : TypeId) (t : Ty) (xs : List t.den) (h1 : nmGet m name = some id) (h2 : isAct id = true) (h3 : O id = some (some (.row e t xs))) (h4 : (name, some (.row e t xs)) ∈ os) : LfOk O m os (.rw id none) (.rw name none)
  | cut (id name : Nat) (n : Int) (e : TypeId) (t : Ty) (xs : List t.den) (h1 : nmGet m name = some id) (h2 : isAct id = true) (h3 : O id = some (some (.row e t xs))) (h4 : (name, some (.row e t (xs.take n.toNat))) ∈ os) : LfOk O m os (.rw id (some (0, n))) (.rw name none)
  | onil (name : Nat) (e : TypeId) (t : Ty) (h1 : nmGet m name = some (nlN name)) (h4 : (name, some (.row e t [])) ∈ os) : LfOk O m os .nil (.rw name none)
  | al (id n : Nat) (h : Bnd m n id) : LfOk O m os (.rw id none) (.rw n none)
  | ptr (id n : Nat) (h : Bnd m n id) : LfOk O m os (.ptr id 0 0) (.ptr n 0 0)
  | fn (f : FuncId) (as ns : List Nat) (h : ns.length = as.length) (hb : ∀ (j n a : Nat), ns[j]? = some n → as[j]? = some a → Bnd m n a) : LfOk O m os (.fn f as) (.fn f ns)
theorem LfOk.mono {O : Look} {m : Nm} {os os' : Objs} (hs : ∀ p ∈ os, p ∈ os') {x l : L} (h : LfOk O m os x l) : LfOk O m os' x l := by
  cases h with
  | un => exact .un _
  | p => exact .p _
  | nil => exact .nil
  | ro _ t xs h hn => exact .ro _ t xs h hn
  | own id name e t xs h1 h2 h3 h4 => exact .own id name e t xs h1 h2 h3 (hs _ h4)
  | cut id name n e t xs h1 h2 h3 h4 => exact .cut id name n e t xs h1 h2 h3 (hs _ h4)
  | onil name e t h1 h4 => exact .onil name e t h1 (hs _ h4)
  | al id n h => exact .al id n h
  | ptr id n h => exact .ptr id n h
  | fn f as ns h hb => exact .fn f as ns h hb
def LfsOk (O : Look) (m : Nm) (os : Objs) (xs ls : List L) : Prop := ls.length = xs.length ∧ ∀ (j : Nat) (x l : L), xs[j]? = some x → ls[j]? = some l → LfOk O m os x l
theorem LfsOk.mono {O : Look} {m : Nm} {os os' : Objs} (hs : ∀ p ∈ os, p ∈ os') {xs ls : List L} (h : LfsOk O m os xs ls) : LfsOk O m os' xs ls := ⟨h.1, fun j x l hx hl => (h.2 j x l hx hl).mono hs⟩
/-- an object as it was, an object as it is handed over -/
def ObOk (O : Look) (mn : List Nat) (m : Nm) (os : Objs) (n : Nat) : Obj → Prop
  | .row e t xs' => (nmGet m n = some (nlN n) ∧ n ∉ mn ∧ xs' = []) ∨ ∃ id xs, nmGet m n = some id ∧ isAct id = true ∧ O id = some (some (.row e t xs)) ∧ (xs' = xs ∨ nmGet m (mkN id) ≠ none ∧ n ∉ mn ∧ ∃ k, k ≤ xs.length ∧ xs' = xs.take k)
  | .box e ls' => ∃ id ls, nmGet m n = some id ∧ isAct id = true ∧ O id = some (some (.box e ls)) ∧ LfsOk O m os ls ls'
theorem ObOk.mono {O : Look} {mn : List Nat} {m : Nm} {os os' : Objs} (hs : ∀ p ∈ os, p ∈ os') {n : Nat} {x : Obj} (h : ObOk O mn m os n x) : ObOk O mn m os' n x := by
  cases x with
  | row e t xs => exact h
  | box e ls => obtain ⟨id, ls', h1, h2, h3, h4⟩ := h; exact ⟨id, ls', h1, h2, h3, h4.mono hs⟩
def ObsOk (O : Look) (mn : List Nat) (m : Nm) (os ps : Objs) : Prop := ∀ p ∈ ps, ∃ x, p.2 = some x ∧ ObOk O mn m os p.1 x

theorem ofLeaf_p {v : Value} (h : v.oneCell' = true) (hs : v ≠ .slice none 0 0) : ofLeaf v = .p v := by
  unfold ofLeaf
  split
  · exact absurd rfl hs
  · simp [Value.oneCell'] at h
  · simp [Value.oneCell'] at h
  · rfl

/-- one leaf -/
theorem decL_ok {O : Look} {mn : List Nat} {m : Nm} {name : Nat} {s : LS} {x : L} {X : Type} {k : Option X} {y : s.add X} (h : decL O (m.map (·.2)) s x k = some y) (hn : NmOk mn m name s x) :
    k = some (encL id name s y).2.2 ∧ LfOk O m (encL id name s y).2.1 x (encL id name s y).1 ∧ ObsOk O mn m [] (encL id name s y).2.1 ∧ (encL id name s y).2.1.map (·.1) = declL name s := by
  cases s with
  | un => exact ⟨h, .un x, fun p hp => by simp [encL] at hp, rfl⟩
  | int kd =>
    simp only [decL] at h
    split at h
    · rename_i k' n
      obtain ⟨h1, h2⟩ := cond_some h
      simp only [decide_eq_true_eq] at h1
      subst h1
      split at h2
      · rename_i r
        cases h2
        exact ⟨rfl, .p _, fun p hp => by simp [encL] at hp, rfl⟩
      · cases h2
    · cases h
  | bool =>
    simp only [decL] at h
    split at h
    · split at h
      · cases h
        exact ⟨rfl, .p _, fun p hp => by simp [encL] at hp, rfl⟩
      · cases h
    · cases h
  | str =>
    simp only [decL] at h
    split at h
    · split at h
      · cases h
        exact ⟨rfl, .p _, fun p hp => by simp [encL] at hp, rfl⟩
      · cases h
    · cases h
  | ro t =>
    simp only [decL] at h
    obtain ⟨h1, h2⟩ := cond_some' h
    split at h2
    · rename_i xs hxs
      split at h2
      · cases h2
        refine ⟨rfl, .ro x t xs hxs fun id hid hc => ?_, fun p hp => by simp [encL] at hp, rfl⟩
        rw [List.any_eq_false] at h1
        have := h1 id hid
        rw [List.contains_iff_mem.2 hc] at this
        exact absurd rfl this
      · cases h2
    · cases h2
  | own e t =>
    simp only [decL] at h
    split at h
    · split at h
      · cases h
        refine ⟨rfl, .onil name e t hn.1 (List.mem_singleton.2 rfl), fun p hp => ?_, rfl⟩
        have := List.mem_singleton.1 hp
        subst this
        exact ⟨_, rfl, .inl ⟨hn.1, hn.2, rfl⟩⟩
      · cases h
    · rename_i id win
      split at h
      · rename_i e' t' ys ho
        split at h
        · obtain ⟨h1, h2⟩ := cond_some h
          have h1 := Nat.eq_of_beq_eq_true h1
          subst h1
          simp only [contentOf, ho] at h2
          split at h2
          · rename_i xs hxs
            obtain ⟨rfl, hx⟩ := castL_some hxs
            simp only [winOf] at hx
            subst hx
            split at h2
            · cases h2
              refine ⟨rfl, .own id name e t' ys hn.1 hn.2 ho (List.mem_singleton.2 rfl), fun p hp => ?_, rfl⟩
              have := List.mem_singleton.1 hp
              subst this
              exact ⟨_, rfl, .inr ⟨id, ys, hn.1, hn.2, ho, .inl rfl⟩⟩
            · cases h2
          · cases h2
        · rename_i a n
          obtain ⟨h1, h2⟩ := cond_some h
          simp only [Bool.and_eq_true, decide_eq_true_eq] at h1
          obtain ⟨h1, ha⟩ := h1
          have h1 := Nat.eq_of_beq_eq_true h1
          subst h1; subst ha
          simp only [contentOf, ho] at h2
          split at h2
          · rename_i xs hxs
            obtain ⟨rfl, hx⟩ := castL_some hxs
            simp only [winOf, Int.toNat_zero, List.drop_zero] at hx
            subst hx
            obtain ⟨n1, n2, n3, n4⟩ := hn
            split at h2
            · cases h2
              refine ⟨rfl, .cut id name n e t' ys n1 n2 ho (List.mem_singleton.2 rfl), fun p hp => ?_, rfl⟩
              have := List.mem_singleton.1 hp
              subst this
              refine ⟨_, rfl, .inr ⟨id, ys, n1, n2, ho, .inr ⟨n3, n4, min n.toNat ys.length, Nat.min_le_right _ _, ?_⟩⟩⟩
              rw [List.take_eq_take_iff]; omega
            · cases h2
          · cases h2
      · cases h
    · cases h
  | al n =>
    simp only [decL] at h
    unfold NmOk at hn
    cases x with
    | rw id w =>
      cases w with
      | none => exact ⟨h, .al id n hn, fun p hp => by simp [encL] at hp, rfl⟩
      | some w => exact hn.elim
    | _ => exact hn.elim
  | ptr n =>
    simp only [decL] at h
    unfold NmOk at hn
    cases x with
    | ptr id i f =>
      obtain ⟨rfl, rfl, hb⟩ := hn
      exact ⟨h, .ptr id n hb, fun p hp => by simp [encL] at hp, rfl⟩
    | _ => exact hn.elim
  | fn f ns =>
    simp only [decL] at h
    unfold NmOk at hn
    cases x with
    | fn g as =>
      obtain ⟨rfl, hl, hb⟩ := hn
      refine ⟨h, ?_, fun p hp => by simp [encL] at hp, rfl⟩
      simp only [encL, List.map_id]
      exact .fn f as ns hl hb
    | _ => exact hn.elim
  | cn v =>
    simp only [decL] at h
    split at h
    · obtain ⟨h1, h2⟩ := cond_some h
      simp only [beq_iff_eq] at h1
      subst h1
      exact ⟨h2, .p _, fun p hp => by simp [encL] at hp, rfl⟩
    · obtain ⟨h1, h2⟩ := cond_some h
      simp only [Bool.and_eq_true, decide_eq_true_eq] at h1
      obtain ⟨rfl, rfl⟩ := h1
      exact ⟨h2, .p _, fun p hp => by simp [encL] at hp, rfl⟩
    · exact ⟨h, .nil, fun p hp => by simp [encL] at hp, rfl⟩
    · exact ⟨h, .p _, fun p hp => by simp [encL] at hp, rfl⟩
    · cases h

theorem ObsOk.mono {O : Look} {mn : List Nat} {m : Nm} {os os' ps : Objs} (hs : ∀ p ∈ os, p ∈ os') (h : ObsOk O mn m os ps) : ObsOk O mn m os' ps := fun p hp => by
  obtain ⟨x, h1, h2⟩ := h p hp; exact ⟨x, h1, h2.mono hs⟩
theorem ObsOk.append {O : Look} {mn : List Nat} {m : Nm} {os ps qs : Objs} (h : ObsOk O mn m os ps) (k : ObsOk O mn m os qs) : ObsOk O mn m os (ps ++ qs) := fun p hp => by
  rcases List.mem_append.1 hp with hp | hp
  · exact h p hp
  · exact k p hp
theorem decLs_ok {O : Look} {mn : List Nat} {m : Nm} {n : Nat} : ∀ {ss : List LS} {xs : List L} {j : Nat} {X : Type} {k : Option X} {y : addL ss X}, decLs O (m.map (·.2)) ss xs k = some y → NmOks mn m n j ss xs →
    k = some (encLs id n j ss y).2.2 ∧ LfsOk O m (encLs id n j ss y).2.1 xs (encLs id n j ss y).1 ∧ ObsOk O mn m [] (encLs id n j ss y).2.1 ∧ (encLs id n j ss y).2.1.map (·.1) = declLs n j ss
  | [], [], j, X, k, y, h, hn => ⟨h, ⟨rfl, fun j x l hx => by simp at hx⟩, fun p hp => by simp [encLs] at hp, rfl⟩
  | s :: ss, x :: xs, j, X, k, y, h, hn => by
    simp only [decLs] at h
    obtain ⟨h1, h2, h3, h4⟩ := decL_ok h hn.1
    obtain ⟨k1, k2, k3, k4⟩ := decLs_ok (j := j + 1) h1 hn.2
    refine ⟨k1, ⟨by simp [encLs, k2.1], fun i x' l hx hl => ?_⟩, h3.append k3, by simp only [encLs, List.map_append, h4, k4, declLs]⟩
    match i, hx, hl with
    | 0, hx, hl =>
      simp only [List.getElem?_cons_zero, Option.some.injEq] at hx
      simp only [encLs, List.getElem?_cons_zero, Option.some.injEq] at hl
      subst hx; subst hl
      exact h2.mono fun p hp => List.mem_append_left _ hp
    | i + 1, hx, hl =>
      simp only [List.getElem?_cons_succ] at hx
      simp only [encLs, List.getElem?_cons_succ] at hl
      exact (k2.2 i x' l hx hl).mono fun p hp => List.mem_append_right _ hp
  | [], _ :: _, _, _, _, _, _, hn => hn.elim
  | _ :: _, [], _, _, _, _, _, hn => hn.elim

def TmOk (O : Look) (m : Nm) (os : Objs) (v u : V) : Prop :=
  u = .l .un ∨ (∃ x l, v = .l x ∧ u = .l l ∧ LfOk O m os x l) ∨ ∃ xs ls, v = .agg xs ∧ u = .agg ls ∧ LfsOk O m os xs ls
theorem TmOk.mono {O : Look} {m : Nm} {os os' : Objs} (hs : ∀ p ∈ os, p ∈ os') {v u : V} (h : TmOk O m os v u) : TmOk O m os' v u := by
  rcases h with h | ⟨x, l, h1, h2, h3⟩ | ⟨x, l, h1, h2, h3⟩
  · exact .inl h
  · exact .inr (.inl ⟨x, l, h1, h2, h3.mono hs⟩)
  · exact .inr (.inr ⟨x, l, h1, h2, h3.mono hs⟩)
theorem vals_ok {mn : List Nat} {tv : Nat → V} {O : Look} {m : Nm} : ∀ {is : List Item} {x : Den is}, vals tv O m is = some x → (∀ i ∈ is, ItOk mn tv O m i) →
    ObsOk O mn m (enc id is x).o (enc id is x).o ∧ (enc id is x).o.map (·.1) = decl is ∧ ∀ k, TmOk O m (enc id is x).o (tv k) (getT (enc id is x).t k)
  | [], x, h, hi => ⟨fun p hp => by simp [enc] at hp, rfl, fun k => .inl rfl⟩
  | .t slot ls :: r, x, h, hi => by
    obtain ⟨v, hv, hn⟩ := hi _ List.mem_cons_self
    simp only [vals, leafV, hv] at h
    obtain ⟨h1, h2, h3, h4⟩ := decL_ok h hn
    obtain ⟨k1, k2, k3⟩ := vals_ok (is := r) h1 (fun i hi' => hi i (List.mem_cons_of_mem _ hi'))
    have hr : ∀ p ∈ (enc id r (encL id slot ls x).2.2).o, p ∈ (enc id (.t slot ls :: r) x).o := fun p hp => List.mem_append_right _ hp
    have hl : ∀ p ∈ (encL id slot ls x).2.1, p ∈ (enc id (.t slot ls :: r) x).o := fun p hp => List.mem_append_left _ hp
    refine ⟨(h3.mono (fun p hp => by simp at hp)).append (k1.mono hr), by simp only [enc, List.map_append, h4, k2, decl], fun k => ?_⟩
    simp only [enc]
    rw [getT_cons]
    split
    · rename_i e
      subst e
      exact .inr (.inl ⟨v, _, hv, rfl, h2.mono hl⟩)
    · exact (k3 k).mono hr
  | .agg slot ls :: r, x, h, hi => by
    obtain ⟨v, hv, hn⟩ := hi _ List.mem_cons_self
    simp only [vals, leavesVs, hv] at h
    obtain ⟨h1, h2, h3, h4⟩ := decLs_ok h hn
    obtain ⟨k1, k2, k3⟩ := vals_ok (is := r) h1 (fun i hi' => hi i (List.mem_cons_of_mem _ hi'))
    have hr : ∀ p ∈ (enc id r (encLs id slot 0 ls x).2.2).o, p ∈ (enc id (.agg slot ls :: r) x).o := fun p hp => List.mem_append_right _ hp
    have hl : ∀ p ∈ (encLs id slot 0 ls x).2.1, p ∈ (enc id (.agg slot ls :: r) x).o := fun p hp => List.mem_append_left _ hp
    refine ⟨(h3.mono (fun p hp => by simp at hp)).append (k1.mono hr), by simp only [enc, List.map_append, h4, k2, decl], fun k => ?_⟩
    simp only [enc]
    rw [getT_cons]
    split
    · rename_i e
      subst e
      exact .inr (.inr ⟨v, _, hv, rfl, h2.mono hl⟩)
    · exact (k3 k).mono hr
  | .box n e ls :: r, x, h, hi => by
    obtain ⟨id', v, hid, hac, hv, hn⟩ := hi _ List.mem_cons_self
    simp only [vals, hid, hv] at h
    obtain ⟨h1, h2, h3, h4⟩ := decLs_ok h hn
    obtain ⟨k1, k2, k3⟩ := vals_ok (is := r) h1 (fun i hi' => hi i (List.mem_cons_of_mem _ hi'))
    have hr : ∀ p ∈ (enc id r (encLs id n 0 ls x).2.2).o, p ∈ (enc id (.box n e ls :: r) x).o := fun p hp => List.mem_cons_of_mem _ (List.mem_append_right _ hp)
    have hl : ∀ p ∈ (encLs id n 0 ls x).2.1, p ∈ (enc id (.box n e ls :: r) x).o := fun p hp => List.mem_cons_of_mem _ (List.mem_append_left _ hp)
    refine ⟨fun p hp => ?_, by simp only [enc, List.map_append, List.map_cons, h4, k2, decl]; rfl, fun k => (k3 k).mono hr⟩
    rcases List.mem_cons.1 hp with rfl | hp
    · exact ⟨_, rfl, id', v, hid, hac, hv, h2.mono hl⟩
    · exact ((h3.mono (fun p hp => by simp at hp)).append (k1.mono hr)) p hp
  | .row n e t :: r, x, h, hi => by
    obtain ⟨id', hid, hac⟩ := hi _ List.mem_cons_self
    simp only [vals, hid] at h
    split at h
    · rename_i e' t' ys ho
      obtain ⟨h1, h2⟩ := cond_some h
      have h1 := Nat.eq_of_beq_eq_true h1
      subst h1
      split at h2
      · rename_i xs hxs
        obtain ⟨rfl, hx⟩ := castL_some hxs
        subst hx
        split at h2
        · rename_i x' hx'
          cases h2
          obtain ⟨k1, k2, k3⟩ := vals_ok (is := r) hx' (fun i hi' => hi i (List.mem_cons_of_mem _ hi'))
          have hr : ∀ p ∈ (enc id r x').o, p ∈ (enc id (.row n e t' :: r) (ys, x')).o := fun p hp => List.mem_cons_of_mem _ hp
          refine ⟨fun p hp => ?_, by simp only [enc, List.map_cons, k2, decl]; rfl, fun k => (k3 k).mono hr⟩
          rcases List.mem_cons.1 hp with rfl | hp
          · exact ⟨_, rfl, .inr ⟨id', ys, hid, hac, ho, .inl rfl⟩⟩
          · exact k1.mono hr p hp
        · cases h2
      · cases h2
    · cases h
end Go.Pm

set_option linter.unusedVariables false
set_option linter.unusedSimpArgs false
namespace Go.Pm
open Go.RowKit

structure RelV (X : Nat → Prop) (T : Nat → Value) (tv : Nat → V) (O : Look) (ρ : Pl) (w : World) : Prop where
  tm : ∀ k, VR O ρ w (BO X O ρ) (tv k) (T k)
  ob : ∀ id x, O id = some (some x) → OR O ρ w (BO X O ρ) id x
  inj : ∀ id id' x x' g c c', O id = some (some x) → O id' = some (some x') → ρ id = some (g, c) → ρ id' = some (g, c') → id = id'
  xo : ∀ id x g c, O id = some (some x) → ρ id = some (g, c) → ¬ X g
def plOf (m : Nm) (ρ : Pl) : Pl := fun n => (nmGet m n).bind fun a => cond (isAct a) (ρ a) none
theorem plOf_act {m : Nm} {ρ : Pl} {n id : Nat} (h : nmGet m n = some id) (ha : isAct id = true) : plOf m ρ n = ρ id := by simp [plOf, h, ha]
theorem plOf_nl {m : Nm} {ρ : Pl} {n : Nat} (h : nmGet m n = some (nlN n)) : plOf m ρ n = none := by simp [plOf, h, isAct_nl]
theorem getO_of_mem : ∀ {os : Objs}, (os.map (·.1)).Nodup → ∀ {n : Nat} {v : Option Obj}, (n, v) ∈ os → getO os n = some v
  | [], _, n, v, h => by simp at h
  | (k, u) :: r, hd, n, v, h => by
    simp only [List.map_cons, List.nodup_cons] at hd
    rw [getO_cons]
    rcases List.mem_cons.1 h with h | h
    · cases h; rw [if_pos rfl]
    · have : k ≠ n := fun e => hd.1 (by subst e; exact List.mem_map_of_mem (f := (·.1)) h)
      rw [if_neg this]
      exact getO_of_mem hd.2 h
theorem mem_of_getO : ∀ {os : Objs} {n : Nat} {v : Option Obj}, getO os n = some v → (n, v) ∈ os
  | [], n, v, h => by simp [getO] at h
  | (k, u) :: r, n, v, h => by
    rw [getO_cons] at h
    split at h
    · rename_i e; cases h; subst e; exact List.mem_cons_self
    · exact List.mem_cons_of_mem _ (mem_of_getO h)

section
variable {X X' Tch : Nat → Prop} {T : Nat → Value} {tv tv' : Nat → V} {O : Look} {ρ : Pl} {w : World} {mn : List Nat} {m : Nm} {is : List Item} {os : Objs}
structure Dec (O : Look) (mn : List Nat) (m : Nm) (os : Objs) : Prop where
  inj : Inj m
  mnok : MnOk mn m
  keyok : KeyOk m
  dc : ∀ n v, nmGet m n = some v → isAct n = true → n ∈ os.map (·.1)
  nd : (os.map (·.1)).Nodup
  ob : ObsOk O mn m os os
theorem declOk_dec (hi : Inj m) (hm : MnOk mn m) (hk : KeyOk m) (hd : declOk is m = true) (ho : ObsOk O mn m os os) (hkeys : os.map (·.1) = decl is) : Dec O mn m os := by
  simp only [declOk, Bool.and_eq_true, decide_eq_true_eq] at hd
  obtain ⟨⟨h1, h2⟩, h3⟩ := hd
  refine ⟨hi, hm, hk, fun n v hn ha => ?_, by rw [hkeys]; exact h2, ho⟩
  rw [hkeys]
  have := List.all_eq_true.1 h1 _ (nmGet_mem hn)
  simp only [Bool.or_eq_true] at this
  rcases this with h4 | h4
  · have := Nat.le_of_ble_eq_true h4; have := isAct_lt.1 ha; omega
  · exact List.contains_iff_mem.1 h4
theorem Dec.live (d : Dec O mn m os) {n : Nat} {x : Obj} (h : getO os n = some (some x)) : ObOk O mn m os n x := by
  obtain ⟨y, h1, h2⟩ := d.ob _ (mem_of_getO h)
  cases h1
  exact h2
theorem Dec.bound (d : Dec O mn m os) {n id : Nat} (h : nmGet m n = some id) (ha : isAct id = true) : ∃ x, getO os n = some (some x) ∧ ObOk O mn m os n x := by
  have hn := d.dc n id h (d.keyok n id h ha)
  obtain ⟨p, hp, rfl⟩ := List.mem_map.1 hn
  obtain ⟨x, hx, ho⟩ := d.ob p hp
  refine ⟨x, ?_, ho⟩
  rw [← hx]
  exact getO_of_mem d.nd hp
/-- a live object and where it came from -/
theorem Dec.src (d : Dec O mn m os) {n : Nat} {x : Obj} (h : getO os n = some (some x)) {ρ : Pl} {g c : Nat} (hp : plOf m ρ n = some (g, c)) : ∃ id y, nmGet m n = some id ∧ isAct id = true ∧ O id = some (some y) ∧ ρ id = some (g, c) := by
  have := d.live h
  cases x with
  | row e t xs =>
    rcases this with ⟨h1, _, _⟩ | ⟨id, ys, h1, h2, h3, _⟩
    · rw [plOf_nl h1] at hp; cases hp
    · rw [plOf_act h1 h2] at hp; exact ⟨id, _, h1, h2, h3, hp⟩
  | box e ls =>
    obtain ⟨id, ys, h1, h2, h3, _⟩ := this
    rw [plOf_act h1 h2] at hp; exact ⟨id, _, h1, h2, h3, hp⟩
theorem Dec.same (d : Dec O mn m os) {n : Nat} {x : Obj} (h : getO os n = some (some x)) (hn : n ∈ mn) (ρ : Pl) : ∃ y, O n = some (some y) ∧ sameShape y x ∧ plOf m ρ n = ρ n := by
  have := d.live h
  cases x with
  | row e t xs =>
    rcases this with ⟨h1, h2, _⟩ | ⟨id, ys, h1, h2, h3, h4⟩
    · exact absurd hn h2
    · have := d.mnok n id h1 hn
      subst this
      refine ⟨_, h3, ?_, plOf_act h1 h2⟩
      rcases h4 with rfl | ⟨_, h5, _⟩
      · exact ⟨rfl, rfl, rfl⟩
      · exact absurd hn h5
  | box e ls =>
    obtain ⟨id, ys, h1, h2, h3, _⟩ := this
    have := d.mnok n id h1 hn
    subst this
    exact ⟨_, h3, trivial, plOf_act h1 h2⟩

variable (h : RelV X T tv O ρ w) (d : Dec O mn m os) (hX : ∀ g, X' g → BO X O ρ g)
  (hX1 : ∀ id x g c, O id = some (some x) → ρ id = some (g, c) → Tch id → ¬ X' g)
  (hT : ∀ n id, nmGet m n = some id → isAct id = true → Tch id)
include d hX in
theorem dec_BO (k : Nat) (hk : BO X' (getO os) (plOf m ρ) k) : BO X O ρ k := by
  rcases hk with hk | ⟨n, x, c, h1, h2⟩
  · exact hX k hk
  · obtain ⟨id, y, _, _, h3, h4⟩ := d.src h1 h2
    exact .inr ⟨id, y, c, h3, h4⟩
include d hX in
theorem dec_keep : Keep w (BO X O ρ) w (BO X' (getO os) (plOf m ρ)) := ⟨Nat.le_refl _, fun b _ hn => ⟨fun h1 => hn (dec_BO d hX b h1), rfl⟩⟩
theorem content_ro (h : RelV X T tv O ρ w) {t : Ty} {x : L} {xs : List t.den} {u : Value} (hc : contentOf O t x = some xs) (hv : LR O ρ w (BO X O ρ) x u) (B' : Nat → Prop) (hB : ∀ k, B' k → BO X O ρ k)
    (hB' : ∀ id ∈ rwIdsL x, ∀ y g c, O id = some (some y) → ρ id = some (g, c) → ¬ B' g) : SlR (ElR w B' t) t.sz w B' xs false u := by
  have hk : Keep w (BO X O ρ) w B' := ⟨Nat.le_refl _, fun b _ hn => ⟨fun h1 => hn (hB b h1), rfl⟩⟩
  unfold contentOf at hc
  split at hc
  · cases hc
    obtain rfl := hv
    exact ⟨none, 0, 0, rfl, rfl, by simp, Nat.le_refl _, fun h => by omega⟩
  · obtain ⟨rfl, e⟩ := castL_some hc
    cases e
    exact (SlR.unclip hv).keep hk (ElR.keep hk _)
  · rename_i id win
    split at hc
    · rename_i e t' ys hid
      obtain ⟨rfl, e⟩ := castL_some hc
      cases e
      simp only [LR, hid] at hv
      have ho := h.ob id _ hid
      have hb : ∀ g c, ρ id = some (g, c) → ¬ B' g := fun g c hp => hB' id (by simp [rwIdsL]) _ g c hid hp
      simp only [OR] at ho
      cases win with
      | none =>
        simp only [RwR] at hv
        cases hp : ρ id with
        | none =>
          rw [hp] at hv ho
          obtain ⟨rfl, h0⟩ := hv
          exact ⟨none, 0, 0, rfl, by simpa [winOf] using h0, by simp, Nat.le_refl _, fun h => by omega⟩
        | some p =>
          obtain ⟨g, c⟩ := p
          rw [hp] at hv ho
          obtain ⟨rfl, hc⟩ := hv
          obtain ⟨cur, hh, h1, h2, h3, h4⟩ := ho
          refine ⟨_, _, _, rfl, rfl, by simp, hc, fun _ => ⟨g, 0, rfl, (Array.getElem?_eq_some_iff.1 hh).1, hb g c hp, fun i hi => ?_⟩⟩
          have := ElR.keep hk t' _ _ (h4 i hi)
          simp only [Nat.zero_add]
          exact this
      | some q =>
        obtain ⟨i0, n⟩ := q
        simp only [RwR] at hv
        obtain ⟨ha, hm, hl, A, c, rfl, hc, hA, _⟩ := hv
        have hlen : (winOf ys (some (i0, n))).length = n.toNat := by simp [winOf]; omega
        refine ⟨A, n.toNat, c, rfl, hlen, by simp, hc, fun h0 => ?_⟩
        obtain ⟨g, c', hp, rfl⟩ := hA (by omega)
        rw [hp] at ho
        obtain ⟨cur, hh, h1, h2, h3, h4⟩ := ho
        refine ⟨g, _, rfl, (Array.getElem?_eq_some_iff.1 hh).1, hb g c' hp, fun i hi => ?_⟩
        have hi' : i0.toNat + i < ys.length := by rw [hlen] at hi; omega
        have := ElR.keep hk t' _ _ (h4 (i0.toNat + i) hi')
        have e1 : (winOf ys (some (i0, n)))[i] = ys[i0.toNat + i] := by simp [winOf]
        rw [e1]
        rw [show (fun j => w.cell? ⟨g, i0.toNat * t'.sz + i * t'.sz + j, none⟩) = (fun j => w.cell? ⟨g, (i0.toNat + i) * t'.sz + j, none⟩) from funext fun j => by rw [Nat.add_mul]]
        exact this
    · cases hc
  · cases hc
include h d hX1 in
theorem dec_not (id : Nat) (y : Obj) (g c : Nat) (ho : O id = some (some y)) (hp : ρ id = some (g, c)) (ht : Tch id) (hn : ∀ n, nmGet m n ≠ some id) : ¬ BO X' (getO os) (plOf m ρ) g := by
  rintro (hx | ⟨n, x, c', h1, h2⟩)
  · exact hX1 id y g c ho hp ht hx
  · obtain ⟨id', y', h3, _, h5, h6⟩ := d.src h1 h2
    have := h.inj id' id y' y g c' c h5 ho h6 hp
    subst this
    exact hn n h3
theorem bnd_ptr (d : Dec O mn m os) {n id : Nat} {u : Value} (hb : Bnd m n id) (hx : match O id with
    | some (some x) => PtR (ρ id) x 0 0 u
    | some none => u.oneCell' = true
    | none => False) : match getO os n with
    | some (some x) => PtR (plOf m ρ n) x 0 0 u
    | some none => u.oneCell' = true
    | none => False := by
  obtain ⟨h1, h2, h3⟩ := hb
  obtain ⟨x, h4, h5⟩ := d.bound h1 h2
  rw [h4]
  simp only
  rw [plOf_act h1 h2]
  cases x with
  | row e t xs =>
    rcases h5 with ⟨h6, _⟩ | ⟨id', ys, h6, _, h7, h8⟩
    · rw [h1] at h6; cases h6; rw [isAct_nl] at h2; cases h2
    · rw [h1] at h6; cases h6
      rw [h7] at hx
      rcases h8 with rfl | ⟨h9, _⟩
      · exact hx
      · exact absurd h3 h9
  | box e ls =>
    obtain ⟨id', ys, h6, _, h7, _⟩ := h5
    rw [h1] at h6; cases h6
    rw [h7] at hx
    exact hx
include h d hX hX1 in
/-- one leaf -/
theorem dec_LR {x l : L} {u : Value} (hl : LfOk O m os x l) (hr : ∀ id ∈ rwIdsL x, Tch id) (hv : LR O ρ w (BO X O ρ) x u) : LR (getO os) (plOf m ρ) w (BO X' (getO os) (plOf m ρ)) l u := by
  have hk := dec_keep (w := w) d hX
  cases hl with
  | un => trivial
  | p v => exact hv
  | nil => exact hv
  | ro _ t xs hc hn =>
    refine content_ro h hc hv _ (dec_BO d hX) fun id hid y g c ho hp => dec_not h d hX1 id y g c ho hp (hr id hid) fun n hnm => hn id hid ?_
    exact List.mem_map_of_mem (f := (·.2)) (nmGet_mem hnm)
  | own id name e t xs h1 h2 h3 h4 =>
    simp only [LR, h3] at hv
    simp only [LR, getO_of_mem d.nd h4, plOf_act h1 h2]
    exact hv
  | cut id name n e t xs h1 h2 h3 h4 =>
    simp only [LR, h3] at hv
    simp only [LR, getO_of_mem d.nd h4, plOf_act h1 h2]
    simp only [RwR] at hv ⊢
    obtain ⟨a1, a2, a3, A, c, rfl, a4, a5, a6⟩ := hv
    have a6 := a6 trivial
    have hlen : (xs.take n.toNat).length = n.toNat := by simp; omega
    split at a6
    · rename_i hp
      obtain ⟨rfl, rfl⟩ := a6
      have : n.toNat = 0 := by omega
      rw [hlen, this]
      exact ⟨rfl, rfl⟩
    · rename_i g c' hp
      obtain ⟨rfl, rfl⟩ := a6
      rw [hlen]
      exact ⟨rfl, a4⟩
  | onil name e t h1 h4 =>
    obtain rfl := hv
    simp [LR, getO_of_mem d.nd h4, plOf_nl h1, RwR]
  | al id n hb =>
    obtain ⟨h1, h2, h3⟩ := hb
    obtain ⟨x, h4, h5⟩ := d.bound h1 h2
    simp only [LR, h4, plOf_act h1 h2] at hv ⊢
    cases x with
    | row e t xs =>
      rcases h5 with ⟨h6, _⟩ | ⟨id', ys, h6, _, h7, h8⟩
      · rw [h1] at h6; cases h6; rw [isAct_nl] at h2; cases h2
      · rw [h1] at h6; cases h6
        rw [h7] at hv
        rcases h8 with rfl | ⟨h9, _⟩
        · exact hv
        · exact absurd h3 h9
    | box e ls =>
      obtain ⟨id', ys, h6, _, h7, _⟩ := h5
      rw [h1] at h6; cases h6
      rw [h7] at hv
      exact hv
  | ptr id n hb =>
    simp only [LR] at hv ⊢
    exact bnd_ptr d hb hv
  | fn f as ns hl hb =>
    obtain ⟨us, rfl, h1, h2⟩ := hv
    refine ⟨us, rfl, by rw [hl]; exact h1, fun j n c hj hc => ?_⟩
    have hlt : j < as.length := by
      have := (List.getElem?_eq_some_iff.1 hc).1
      omega
    exact bnd_ptr d (hb j n as[j] hj (List.getElem?_eq_getElem hlt)) (h2 j _ c (List.getElem?_eq_getElem hlt) hc)
include h d hX hX1 in
theorem dec_AgR {xs ls : List L} {cs : List Value} (hl : LfsOk O m os xs ls) (hr : ∀ x ∈ xs, ∀ id ∈ rwIdsL x, Tch id) (hv : AgR O ρ w (BO X O ρ) xs cs) : AgR (getO os) (plOf m ρ) w (BO X' (getO os) (plOf m ρ)) ls cs := by
  obtain ⟨h1, h2⟩ := hv
  refine ⟨h1.trans hl.1.symm, fun j l c hj hc => ?_⟩
  have hlt : j < xs.length := by rw [← hl.1]; exact (List.getElem?_eq_some_iff.1 hj).1
  obtain ⟨h3, h4⟩ := h2 j _ c (List.getElem?_eq_getElem hlt) hc
  exact ⟨dec_LR h d hX hX1 (hl.2 j _ l (List.getElem?_eq_getElem hlt) hj) (hr _ (List.getElem_mem hlt)) h3, h4⟩
include h d hX hX1 hT in
theorem dec_rel (hTt : ∀ k, ∀ id ∈ rwIds (tv k), Tch id)
    (hTo : ∀ n id e ls, nmGet m n = some id → isAct id = true → O id = some (some (.box e ls)) → ∀ l ∈ ls, ∀ j ∈ rwIdsL l, Tch j) (ht : ∀ k, TmOk O m os (tv k) (tv' k)) : RelV X' T tv' (getO os) (plOf m ρ) w := by
  have hk := dec_keep (w := w) d hX
  refine ⟨fun k => ?_, fun n x hx => ?_, fun n n' x x' g c c' hx hx' hp hp' => ?_, fun n x g c hx hp => ?_⟩
  · have hv := h.tm k
    rcases ht k with h1 | ⟨x, l, h1, h2, h3⟩ | ⟨xs, ls, h1, h2, h3⟩
    · rw [h1]; exact trivial
    · rw [h1] at hv
      rw [h2]
      exact dec_LR h d hX hX1 h3 (fun id hid => hTt k id (by rw [h1]; exact hid)) hv
    · rw [h1] at hv
      rw [h2]
      obtain ⟨cs, e, hv⟩ := hv
      exact ⟨cs, e, dec_AgR h d hX hX1 h3 (fun x hx id hid => hTt k id (by rw [h1]; exact List.mem_flatMap.2 ⟨x, hx, hid⟩)) hv⟩
  · have hl := d.live hx
    cases x with
    | row e t xs' =>
      rcases hl with ⟨h1, _, rfl⟩ | ⟨id, xs, h1, h2, h3, h4⟩
      · simp only [OR, plOf_nl h1]
      · have ho := h.ob id _ h3
        simp only [OR] at ho ⊢
        rw [plOf_act h1 h2]
        split at ho
        · subst ho
          rcases h4 with rfl | ⟨_, _, k, _, rfl⟩
          · rfl
          · simp
        · obtain ⟨cur, hh, a1, a2, a3, a4⟩ := ho
          rcases h4 with rfl | ⟨_, _, k, hk2, rfl⟩
          · exact ⟨cur, hh, a1, a2, a3, fun i hi => (a4 i hi).keep hk⟩
          · refine ⟨cur, hh, by simp; omega, a2, a3, fun i hi => ?_⟩
            have hi' : i < xs.length := by simp at hi; omega
            have := (a4 i hi').keep hk
            simpa using this
    | box e ls =>
      obtain ⟨id, ls', h1, h2, h3, h4⟩ := hl
      obtain ⟨g, c, cur, hp, hh, ha⟩ := h.ob id _ h3
      exact ⟨g, c, cur, by rw [plOf_act h1 h2]; exact hp, hh, dec_AgR h d hX hX1 h4 (hTo n id e ls' h1 h2 h3) ha⟩
  · obtain ⟨id, y, h1, _, h2, h3⟩ := d.src hx hp
    obtain ⟨id', y', h1', _, h2', h3'⟩ := d.src hx' hp'
    have := h.inj id id' y y' g c c' h2 h2' h3 h3'
    subst this
    exact d.inj n n' _ h1 h1'
  · obtain ⟨id, y, h1, h2, h3, h4⟩ := d.src hx hp
    exact hX1 id y g c h3 h4 (hT n id h1 h2)
end

/-- a state and what it is cut to -/
theorem Inv.relV {X : Nat → Prop} {w0 : World} {ρ0 : P0} {mn : List Nat} {nt : Nat} {s : St} {ρ : Pl} {a : Act} {w : World} (h : Inv X w0 ρ0 mn nt s ρ a w) :
    RelV X (fun k => a.tmps.getD k undef) (getT s.t) (getO s.o) ρ w := by
  refine ⟨h.rel.tm, h.rel.ob, h.rel.inj, fun id x g c hx hp hX => ?_⟩
  obtain ⟨h1, h2⟩ := h.x g hX
  rcases h.own id x g c hx hp with h3 | h3
  · omega
  · exact h2 h3
theorem inj_nil : Inj [] := fun k k' v h => by simp [nmGet] at h
theorem mnok_nil (mn : List Nat) : MnOk mn [] := fun n v h => by simp [nmGet] at h
theorem keyok_nil : KeyOk [] := fun n v h => by simp [nmGet] at h
theorem nmGet_diag (l : List Nat) (k v : Nat) (h : nmGet (l.map fun n => (n, n)) k = some v) : v = k := by
  have := nmGet_mem h
  obtain ⟨n, _, e⟩ := List.mem_map.1 this
  cases e
  rfl
theorem inj_diag (l : List Nat) : Inj (l.map fun n => (n, n)) := fun k k' v h1 h2 => by rw [← nmGet_diag _ _ _ h1, ← nmGet_diag _ _ _ h2]
theorem mnok_diag (mn l : List Nat) : MnOk mn (l.map fun n => (n, n)) := fun n v h1 _ => nmGet_diag _ _ _ h1
theorem keyok_diag (l : List Nat) : KeyOk (l.map fun n => (n, n)) := fun n v h1 h2 => by rw [← nmGet_diag _ _ _ h1]; exact h2
theorem Inv.cut {X : Nat → Prop} {w0 : World} {ρ0 : P0} {mn : List Nat} {nt : Nat} {s : St} {ρ : Pl} {a : Act} {w : World} (h : Inv X w0 ρ0 mn nt s ρ a w) {is : List Item} {m : Nm} {x : Den is}
    (hn : names mn (getT s.t) (getO s.o) is (mn.map fun n => (n, n)) = some m) (hd : declOk is m = true) (hv : vals (getT s.t) (getO s.o) m is = some x) : ∃ ρ', Inv X w0 ρ0 mn nt (enc id is x) ρ' a w := by
  obtain ⟨st, hit⟩ := names_ok hn
  obtain ⟨v1, v2, v3⟩ := vals_ok hv hit
  have d : Dec (getO s.o) mn m (enc id is x).o := declOk_dec (st.inj (inj_diag _)) (st.mnok (mnok_diag _ _)) (st.keyok (keyok_diag _)) hd v1 v2
  have r := dec_rel (X' := X) (Tch := fun _ => True) h.relV d (fun g hg => .inl hg) (fun id x g c ho hp _ => h.relV.xo id x g c ho hp) (fun _ _ _ _ => trivial) (fun _ _ _ => trivial) (fun _ _ _ _ _ _ _ _ _ _ _ => trivial) v3
  refine ⟨plOf m ρ, ⟨h.rel.sz, h.rel.dn, r.tm, r.ob, r.inj⟩, h.fr, fun n y g c hy hp => ?_, fun n hnm y hy => ?_, h.x⟩
  · obtain ⟨id, z, h1, _, h2, h3⟩ := d.src hy hp
    exact h.own id z g c h2 h3
  · obtain ⟨z, h1, h2, h3⟩ := d.same hy hnm ρ
    obtain ⟨h4, q, h5, h6⟩ := h.mt n hnm z h1
    exact ⟨h3.trans h4, q, h5, h6.trans h2⟩
end Go.Pm

set_option linter.unusedVariables false
set_option linter.unusedSimpArgs false
namespace Go.Pm
open Go.RowKit

def renL (ren : Nat → Nat) : L → L
  | .rw id w => .rw (ren id) w
  | .ptr id i f => .ptr (ren id) i f
  | .fn f caps => .fn f (caps.map ren)
  | x => x
def renV (ren : Nat → Nat) : V → V
  | .l x => .l (renL ren x)
  | .agg ls => .agg (ls.map (renL ren))
  | .tup vs => .tup (vs.map fun p => (p.1, p.2.map (renL ren)))
def renO (ren : Nat → Nat) : Obj → Obj
  | .row e t xs => .row e t xs
  | .box e ls => .box e (ls.map (renL ren))
def renP (ren : Nat → Nat) (p : Nat × Option Obj) : Nat × Option Obj := (ren p.1, p.2.map (renO ren))
theorem renL_ofLeaf (ren : Nat → Nat) (v : Value) : renL ren (ofLeaf v) = ofLeaf v := by
  unfold ofLeaf
  split <;> rfl
theorem encL_ren (ren : Nat → Nat) (name : Nat) (s : LS) {X : Type} (x : s.add X) :
    (encL ren name s x).1 = renL ren (encL id name s x).1 ∧ (encL ren name s x).2.1 = (encL id name s x).2.1.map (renP ren) ∧ (encL ren name s x).2.2 = (encL id name s x).2.2 := by
  cases s <;> first | exact ⟨rfl, rfl, rfl⟩ | skip
  · rename_i v
    exact ⟨(renL_ofLeaf ren v).symm, rfl, rfl⟩
  · rename_i f caps
    refine ⟨?_, rfl, rfl⟩
    simp [encL, renL]
theorem encLs_ren (ren : Nat → Nat) (n : Nat) : ∀ (ls : List LS) (j : Nat) {X : Type} (x : addL ls X),
    (encLs ren n j ls x).1 = (encLs id n j ls x).1.map (renL ren) ∧ (encLs ren n j ls x).2.1 = (encLs id n j ls x).2.1.map (renP ren) ∧ (encLs ren n j ls x).2.2 = (encLs id n j ls x).2.2
  | [], j, X, x => ⟨rfl, rfl, rfl⟩
  | s :: r, j, X, x => by
    obtain ⟨h1, h2, h3⟩ := encL_ren ren (sub2 n j) s x
    simp only [encLs]
    rw [h1, h2, h3]
    obtain ⟨k1, k2, k3⟩ := encLs_ren ren n r (j + 1) (encL id (sub2 n j) s x).2.2
    rw [k1, k2, k3]
    exact ⟨by simp, by simp, rfl⟩
theorem enc_ren (ren : Nat → Nat) : ∀ (is : List Item) (x : Den is), (enc ren is x).o = (enc id is x).o.map (renP ren) ∧ (enc ren is x).t = (enc id is x).t.map fun p => (p.1, renV ren p.2)
  | [], x => ⟨rfl, rfl⟩
  | .t slot s :: r, x => by
    obtain ⟨h1, h2, h3⟩ := encL_ren ren slot s x
    simp only [enc]
    rw [h1, h2, h3]
    obtain ⟨k1, k2⟩ := enc_ren ren r (encL id slot s x).2.2
    rw [k1, k2]
    exact ⟨by simp, by simp [renV]⟩
  | .agg slot s :: r, x => by
    obtain ⟨h1, h2, h3⟩ := encLs_ren ren slot s 0 x
    simp only [enc]
    rw [h1, h2, h3]
    obtain ⟨k1, k2⟩ := enc_ren ren r (encLs id slot 0 s x).2.2
    rw [k1, k2]
    exact ⟨by simp, by simp [renV]⟩
  | .box n e s :: r, x => by
    obtain ⟨h1, h2, h3⟩ := encLs_ren ren n s 0 x
    simp only [enc]
    rw [h1, h2, h3]
    obtain ⟨k1, k2⟩ := enc_ren ren r (encLs id n 0 s x).2.2
    rw [k1, k2]
    exact ⟨by simp [renP, renO], rfl⟩
  | .row n e t :: r, x => by
    simp only [enc]
    obtain ⟨k1, k2⟩ := enc_ren ren r x.2
    rw [k1, k2]
    exact ⟨by simp [renP, renO], rfl⟩
theorem getT_ren (ren : Nat → Nat) (k : Nat) : ∀ l : List (Nat × V), getT (l.map fun p => (p.1, renV ren p.2)) k = renV ren (getT l k)
  | [] => rfl
  | (n, v) :: r => by
    rw [List.map_cons, getT_cons, getT_cons, getT_ren ren k r]
    split <;> rfl
theorem resV_ren (ren : Nat → Nat) (n : Nat) (is : List Item) (x : Den is) : resV n (enc ren is x) = renV ren (resV n (enc id is x)) := by
  have h : ∀ k, getT (enc ren is x).t k = renV ren (getT (enc id is x).t k) := fun k => by rw [(enc_ren ren is x).2, getT_ren]
  unfold resV
  split
  · exact h _
  · simp only [renV, List.map_map, V.tup.injEq]
    apply List.map_congr_left
    intro k _
    simp only [Function.comp, h]
    cases getT (enc id is x).t (rslot + k) <;> rfl

def L.noRo : L → Bool
  | .ro _ _ _ => false
  | .rp _ _ _ => false
  | _ => true
def Obj.noRo : Obj → Bool
  | .row _ t _ => t.flat
  | .box _ ls => ls.all L.noRo
def V.noRo : V → Bool
  | .l x => x.noRo
  | .agg ls => ls.all L.noRo
  | .tup vs => vs.all fun p => p.2.all L.noRo
theorem ofLeaf_noRo (v : Value) : (ofLeaf v).noRo = true := by unfold ofLeaf; split <;> rfl
theorem encL_noRo (name : Nat) (s : LS) {X : Type} (x : s.add X) (h : s.hasRo = false) : (encL id name s x).1.noRo = true ∧ ∀ p ∈ (encL id name s x).2.1, ∀ y, p.2 = some y → y.noRo = true := by
  cases s with
  | ro t => simp [LS.hasRo] at h
  | own e t =>
    refine ⟨rfl, fun p hp y hy => ?_⟩
    have := List.mem_singleton.1 hp
    subst this
    cases hy
    simpa [LS.hasRo, Obj.noRo] using h
  | cn v => exact ⟨ofLeaf_noRo v, fun p hp => by simp [encL] at hp⟩
  | _ => exact ⟨rfl, fun p hp => by simp [encL] at hp⟩
theorem encLs_noRo (n : Nat) : ∀ (ls : List LS) (j : Nat) {X : Type} (x : addL ls X), ls.any LS.hasRo = false → (encLs id n j ls x).1.all L.noRo = true ∧ ∀ p ∈ (encLs id n j ls x).2.1, ∀ y, p.2 = some y → y.noRo = true
  | [], j, X, x, h => ⟨rfl, fun p hp => by simp [encLs] at hp⟩
  | s :: r, j, X, x, h => by
    simp only [List.any_cons, Bool.or_eq_false_iff] at h
    obtain ⟨h1, h2⟩ := encL_noRo (sub2 n j) s x h.1
    obtain ⟨k1, k2⟩ := encLs_noRo n r (j + 1) (encL id (sub2 n j) s x).2.2 h.2
    refine ⟨by simp only [encLs, List.all_cons, h1, k1]; rfl, fun p hp => ?_⟩
    simp only [encLs] at hp
    rcases List.mem_append.1 hp with hp | hp
    · exact h2 p hp
    · exact k2 p hp
theorem enc_noRo : ∀ (is : List Item) (x : Den is), hasRo is = false → (∀ k, (getT (enc id is x).t k).noRo = true) ∧ ∀ p ∈ (enc id is x).o, ∀ y, p.2 = some y → y.noRo = true
  | [], x, h => ⟨fun k => rfl, fun p hp => by simp [enc] at hp⟩
  | .t slot s :: r, x, h => by
    simp only [hasRo, Bool.or_eq_false_iff] at h
    obtain ⟨h1, h2⟩ := encL_noRo slot s x h.1
    obtain ⟨k1, k2⟩ := enc_noRo r (encL id slot s x).2.2 h.2
    refine ⟨fun k => ?_, fun p hp => ?_⟩
    · simp only [enc]; rw [getT_cons]; split
      · exact h1
      · exact k1 k
    · simp only [enc] at hp
      rcases List.mem_append.1 hp with hp | hp
      · exact h2 p hp
      · exact k2 p hp
  | .agg slot s :: r, x, h => by
    simp only [hasRo, Bool.or_eq_false_iff] at h
    obtain ⟨h1, h2⟩ := encLs_noRo slot s 0 x h.1
    obtain ⟨k1, k2⟩ := enc_noRo r (encLs id slot 0 s x).2.2 h.2
    refine ⟨fun k => ?_, fun p hp => ?_⟩
    · simp only [enc]; rw [getT_cons]; split
      · exact h1
      · exact k1 k
    · simp only [enc] at hp
      rcases List.mem_append.1 hp with hp | hp
      · exact h2 p hp
      · exact k2 p hp
  | .box n e s :: r, x, h => by
    simp only [hasRo, Bool.or_eq_false_iff] at h
    obtain ⟨h1, h2⟩ := encLs_noRo n s 0 x h.1
    obtain ⟨k1, k2⟩ := enc_noRo r (encLs id n 0 s x).2.2 h.2
    refine ⟨k1, fun p hp y hy => ?_⟩
    simp only [enc] at hp
    rcases List.mem_cons.1 hp with rfl | hp
    · cases hy; exact h1
    rcases List.mem_append.1 hp with hp | hp
    · exact h2 p hp y hy
    · exact k2 p hp y hy
  | .row n e t :: r, x, h => by
    simp only [hasRo, Bool.or_eq_false_iff, Bool.not_eq_false'] at h
    obtain ⟨k1, k2⟩ := enc_noRo r x.2 h.2
    refine ⟨k1, fun p hp y hy => ?_⟩
    simp only [enc] at hp
    rcases List.mem_cons.1 hp with rfl | hp
    · cases hy; exact h.1
    · exact k2 p hp y hy
theorem resV_noRo (n : Nat) (is : List Item) (x : Den is) (h : hasRo is = false) : (resV n (enc id is x)).noRo = true := by
  have k := (enc_noRo is x h).1
  unfold resV
  split
  · exact k _
  · simp only [V.noRo, List.all_eq_true, List.mem_map]
    rintro p ⟨j, _, rfl⟩ l hl
    have := k (rslot + j)
    cases hv : getT (enc id is x).t (rslot + j) with
    | l y => rw [hv] at this hl; simp at hl; subst hl; exact this
    | agg ls => rw [hv] at this hl; exact List.all_eq_true.1 this l hl
    | tup vs => rw [hv] at hl; simp at hl

theorem encL_keys (name : Nat) (s : LS) {X : Type} (x : s.add X) : (encL id name s x).2.1.map (·.1) = declL name s ∧ ∀ p ∈ (encL id name s x).2.1, p.2.isSome = true := by
  cases s with
  | own e t =>
    refine ⟨rfl, fun p hp => ?_⟩
    have := List.mem_singleton.1 hp
    subst this
    rfl
  | _ => exact ⟨rfl, fun p hp => by simp [encL] at hp⟩
theorem encLs_keys (n : Nat) : ∀ (ls : List LS) (j : Nat) {X : Type} (x : addL ls X), (encLs id n j ls x).2.1.map (·.1) = declLs n j ls ∧ ∀ p ∈ (encLs id n j ls x).2.1, p.2.isSome = true
  | [], j, X, x => ⟨rfl, fun p hp => by simp [encLs] at hp⟩
  | s :: r, j, X, x => by
    obtain ⟨h1, h2⟩ := encL_keys (sub2 n j) s x
    obtain ⟨k1, k2⟩ := encLs_keys n r (j + 1) (encL id (sub2 n j) s x).2.2
    refine ⟨by simp only [encLs, List.map_append, h1, k1, declLs], fun p hp => ?_⟩
    simp only [encLs] at hp
    rcases List.mem_append.1 hp with hp | hp
    · exact h2 p hp
    · exact k2 p hp
theorem enc_keys : ∀ (is : List Item) (x : Den is), (enc id is x).o.map (·.1) = decl is ∧ ∀ p ∈ (enc id is x).o, p.2.isSome = true
  | [], x => ⟨rfl, fun p hp => by simp [enc] at hp⟩
  | .t slot s :: r, x => by
    obtain ⟨h1, h2⟩ := encL_keys slot s x
    obtain ⟨k1, k2⟩ := enc_keys r (encL id slot s x).2.2
    refine ⟨by simp only [enc, List.map_append, h1, k1, decl], fun p hp => ?_⟩
    simp only [enc] at hp
    rcases List.mem_append.1 hp with hp | hp
    · exact h2 p hp
    · exact k2 p hp
  | .agg slot s :: r, x => by
    obtain ⟨h1, h2⟩ := encLs_keys slot s 0 x
    obtain ⟨k1, k2⟩ := enc_keys r (encLs id slot 0 s x).2.2
    refine ⟨by simp only [enc, List.map_append, h1, k1, decl], fun p hp => ?_⟩
    simp only [enc] at hp
    rcases List.mem_append.1 hp with hp | hp
    · exact h2 p hp
    · exact k2 p hp
  | .box n e s :: r, x => by
    obtain ⟨h1, h2⟩ := encLs_keys n s 0 x
    obtain ⟨k1, k2⟩ := enc_keys r (encLs id n 0 s x).2.2
    refine ⟨by simp only [enc, List.map_cons, List.map_append, h1, k1, decl]; rfl, fun p hp => ?_⟩
    simp only [enc] at hp
    rcases List.mem_cons.1 hp with rfl | hp
    · rfl
    rcases List.mem_append.1 hp with hp | hp
    · exact h2 p hp
    · exact k2 p hp
  | .row n e t :: r, x => by
    obtain ⟨k1, k2⟩ := enc_keys r x.2
    refine ⟨by simp only [enc, List.map_cons, k1, decl]; rfl, fun p hp => ?_⟩
    simp only [enc] at hp
    rcases List.mem_cons.1 hp with rfl | hp
    · rfl
    · exact k2 p hp
/-- no object that comes out is a gone one -/
theorem enc_live {is : List Item} {x : Den is} {n : Nat} {v : Option Obj} (h : getO (enc id is x).o n = some v) : ∃ y, v = some y := by
  have := (enc_keys is x).2 _ (mem_of_getO h)
  cases v with
  | none => cases this
  | some y => exact ⟨y, rfl⟩

theorem ElR_flat {w : World} {B B' : Nat → Prop} : ∀ {t : Ty} {x : t.den} {c : Nat → Option Value}, t.flat = true → ElR w B t x c → ElR w B' t x c
  | .int _, _, _, _, h => h
  | .bool, _, _, _, h => h
  | .str, _, _, _, h => h
  | .ii, _, _, _, h => h
  | .sl t, _, _, h, _ => by simp [Ty.flat] at h
section
variable {O o' : Look} {ρ' ρ1 : Pl} {w : World} {B B' : Nat → Prop} {ren : Nat → Nat}
  (hO : ∀ n v, O n = some v → ∃ x, v = some x ∧ o' (ren n) = some (some (renO ren x)) ∧ ρ1 (ren n) = ρ' n)
theorem PtR_ren {pl : Option (Nat × Nat)} {x : Obj} {i : Int} {f : Nat} {u : Value} (h : PtR pl x i f u) : PtR pl (renO ren x) i f u := by
  cases x <;> exact h
include hO in
theorem LR_ren {l : L} {u : Value} (hb : l.noRo = true ∨ Keep w B w B') (h : LR O ρ' w B l u) : LR o' ρ1 w B' (renL ren l) u := by
  cases l with
  | un => trivial
  | p v => exact h
  | nil => exact h
  | ro t xs cl =>
    rcases hb with hb | hb
    · cases hb
    · exact SlR.keep hb (ElR.keep hb t) h
  | rp t x f =>
    rcases hb with hb | hb
    · cases hb
    · obtain ⟨b, k, rfl, h1, h2, h3⟩ := h
      exact ⟨b, k, rfl, h1, (hb.2 b h1 h2).1, ElR.keep hb t x _ h3⟩
  | rw id win =>
    simp only [LR, renL] at h ⊢
    cases hid : O id with
    | none => rw [hid] at h; exact h.elim
    | some v =>
      obtain ⟨x, rfl, h1, h2⟩ := hO id v hid
      rw [hid] at h
      rw [h1, h2]
      cases x <;> exact h
  | ptr id i f =>
    simp only [LR, renL] at h ⊢
    cases hid : O id with
    | none => rw [hid] at h; exact h.elim
    | some v =>
      obtain ⟨x, rfl, h1, h2⟩ := hO id v hid
      rw [hid] at h
      rw [h1, h2]
      exact PtR_ren h
  | fn f caps =>
    obtain ⟨us, rfl, hl, hc⟩ := h
    refine ⟨us, rfl, by simpa using hl, fun j n c hj hu => ?_⟩
    rw [List.getElem?_map] at hj
    cases hid : caps[j]? with
    | none => rw [hid] at hj; cases hj
    | some id =>
      rw [hid] at hj
      cases hj
      have hq := hc j id c hid hu
      cases ho : O id with
      | none => rw [ho] at hq; exact hq.elim
      | some v =>
        obtain ⟨x, rfl, h1, h2⟩ := hO id v ho
        rw [ho] at hq
        rw [h1, h2]
        exact PtR_ren hq
include hO in
theorem AgR_ren {ls : List L} {cs : List Value} (hb : ls.all L.noRo = true ∨ Keep w B w B') (h : AgR O ρ' w B ls cs) : AgR o' ρ1 w B' (ls.map (renL ren)) cs := by
  refine ⟨by simpa using h.1, fun j l c hj hc => ?_⟩
  rw [List.getElem?_map] at hj
  cases hl : ls[j]? with
  | none => rw [hl] at hj; cases hj
  | some x =>
    rw [hl] at hj
    cases hj
    obtain ⟨h1, h2⟩ := h.2 j x c hl hc
    exact ⟨LR_ren hO (hb.imp (fun h => List.all_eq_true.1 h x (List.mem_of_getElem? hl)) fun h => h) h1, h2⟩
include hO in
theorem VR_ren {v : V} {u : Value} (hb : v.noRo = true ∨ Keep w B w B') (h : VR O ρ' w B v u) : VR o' ρ1 w B' (renV ren v) u := by
  cases v with
  | l x => exact LR_ren hO hb h
  | agg ls => obtain ⟨cs, rfl, h⟩ := h; exact ⟨cs, rfl, AgR_ren hO hb h⟩
  | tup vs =>
    obtain ⟨us, rfl, hl, h⟩ := h
    refine ⟨us, rfl, by simpa using hl, fun j x c hj hc => ?_⟩
    rw [List.getElem?_map] at hj
    cases hv : vs[j]? with
    | none => rw [hv] at hj; cases hj
    | some y =>
      rw [hv] at hj
      cases hj
      have h := h j y c hv hc
      have hb : y.2.all L.noRo = true ∨ Keep w B w B' := hb.imp (fun h => List.all_eq_true.1 h y (List.mem_of_getElem? hv)) fun h => h
      obtain ⟨b, ls⟩ := y
      cases b with
      | true => obtain ⟨cs, rfl, h⟩ := h; exact ⟨cs, rfl, AgR_ren hO hb h⟩
      | false =>
        match ls, h, hb with
        | [], _, _ => trivial
        | [x], h, hb => exact LR_ren hO (hb.imp (fun h => by simpa using h) fun h => h) h
        | _ :: _ :: _, _, _ => trivial
include hO in
theorem OR_ren {n : Nat} {x : Obj} (hb : x.noRo = true ∨ Keep w B w B') (hn : ρ1 (ren n) = ρ' n) (h : OR O ρ' w B n x) : OR o' ρ1 w B' (ren n) (renO ren x) := by
  cases x with
  | row e t xs =>
    simp only [OR, renO] at h ⊢
    rw [hn]
    split at h
    · exact h
    · obtain ⟨cur, hh, h1, h2, h3, h4⟩ := h
      refine ⟨cur, hh, h1, h2, h3, fun i hi => ?_⟩
      rcases hb with hb | hb
      · exact ElR_flat hb (h4 i hi)
      · exact (h4 i hi).keep hb
  | box e ls =>
    obtain ⟨g, c, cur, hp, hh, ha⟩ := h
    exact ⟨g, c, cur, hn.trans hp, hh, AgR_ren hO hb ha⟩
end
end Go.Pm

set_option linter.unusedVariables false
set_option linter.unusedSimpArgs false
namespace Go.Pm
open Go.RowKit

/-- what comes out of a call -/
structure COut (F : Fun) (x : Den F.ins) (y : Den F.outs) (X : Nat → Prop) (ρ : Pl) (w : World) (v : Value) (ρ' : Pl) (w' : World) : Prop where
  tm : VR (getO (enc id F.outs y).o) ρ' w' (BO X (getO (enc id F.outs y).o) ρ') (resV (resN F.outs) (enc id F.outs y)) v
  ob : ∀ n z, getO (enc id F.outs y).o n = some (some z) → OR (getO (enc id F.outs y).o) ρ' w' (BO X (getO (enc id F.outs y).o) ρ') n z
  inj : ∀ n n' z z' g c c', getO (enc id F.outs y).o n = some (some z) → getO (enc id F.outs y).o n' = some (some z') → ρ' n = some (g, c) → ρ' n' = some (g, c') → n = n'
  fr : Fr w (MO F.mn ⟨ρ, getO (enc id F.ins x).o⟩) w'
  own : ∀ n z g c, getO (enc id F.outs y).o n = some (some z) → ρ' n = some (g, c) → w.heap.size ≤ g ∨ MO F.mn ⟨ρ, getO (enc id F.ins x).o⟩ g
  mt : ∀ n ∈ F.mn, ∀ z, getO (enc id F.outs y).o n = some (some z) → ρ' n = ρ n ∧ SameO (getO (enc id F.ins x).o) n z
def CallsD (P : Program) (f : FuncId) (F : Fun) : Prop :=
  (∃ fn, P.funcs[f]? = some fn ∧ (fn.name == "runtime.NumGoroutine") = false ∧ fn.body.isNone = false) ∧
  ∀ (x : Den F.ins) (y : Den F.outs), F.run x = some y → ∀ (X : Nat → Prop) (args : Array Value) (ρ : Pl) (w : World),
    RelV X (fun k => args.getD k undef) (getT (enc id F.ins x).t) (getO (enc id F.ins x).o) ρ w →
    (∀ g, X g → g < w.heap.size ∧ ¬ MO F.mn ⟨ρ, getO (enc id F.ins x).o⟩ g) →
    Calls P f args w fun e w' => ∃ v ρ', e = .returned v ∧ COut F x y X ρ w v ρ' w'

section
variable {O O' : Look} (hO : ∀ id v, O id = some v → O' id = some v)
include hO in
theorem contentOf_mono {t : Ty} {x : L} {xs : List t.den} (h : contentOf O t x = some xs) : contentOf O' t x = some xs := by
  unfold contentOf at h ⊢
  split at h
  · exact h
  · exact h
  · rename_i id w
    split at h
    · rename_i e u ys ho
      simp only [hO id _ ho]
      exact h
    · cases h
  · cases h
include hO in
theorem LfOk.look {m : Nm} {os : Objs} {x l : L} (h : LfOk O m os x l) : LfOk O' m os x l := by
  cases h with
  | un => exact .un _
  | p => exact .p _
  | nil => exact .nil
  | ro _ t xs h hn => exact .ro _ t xs (contentOf_mono hO h) hn
  | own id name e t xs h1 h2 h3 h4 => exact .own id name e t xs h1 h2 (hO _ _ h3) h4
  | cut id name n e t xs h1 h2 h3 h4 => exact .cut id name n e t xs h1 h2 (hO _ _ h3) h4
  | onil name e t h1 h4 => exact .onil name e t h1 h4
  | al id n h => exact .al id n h
  | ptr id n h => exact .ptr id n h
  | fn f as ns h hb => exact .fn f as ns h hb
include hO in
theorem LfsOk.look {m : Nm} {os : Objs} {xs ls : List L} (h : LfsOk O m os xs ls) : LfsOk O' m os xs ls := ⟨h.1, fun j x l hx hl => (h.2 j x l hx hl).look hO⟩
include hO in
theorem ObsOk.look {mn : List Nat} {m : Nm} {os ps : Objs} (h : ObsOk O mn m os ps) : ObsOk O' mn m os ps := fun p hp => by
  obtain ⟨x, h1, h2⟩ := h p hp
  refine ⟨x, h1, ?_⟩
  cases x with
  | row e t xs =>
    rcases h2 with h2 | ⟨id, ys, a1, a2, a3, a4⟩
    · exact .inl h2
    · exact .inr ⟨id, ys, a1, a2, hO _ _ a3, a4⟩
  | box e ls =>
    obtain ⟨id, ys, a1, a2, a3, a4⟩ := h2
    exact ⟨id, ys, a1, a2, hO _ _ a3, a4.look hO⟩
include hO in
theorem TmOk.look {m : Nm} {os : Objs} {v u : V} (h : TmOk O m os v u) : TmOk O' m os v u := by
  rcases h with h | ⟨x, l, h1, h2, h3⟩ | ⟨x, l, h1, h2, h3⟩
  · exact .inl h
  · exact .inr (.inl ⟨x, l, h1, h2, h3.look hO⟩)
  · exact .inr (.inr ⟨x, l, h1, h2, h3.look hO⟩)
end
theorem restrict_some {fp : List Nat} {o : Look} {id : Nat} {v : Option Obj} (h : restrict fp o id = some v) : o id = some v := by
  unfold restrict at h
  exact (cond_some h).2
theorem getT_zipT : ∀ (vs : List V) (n k : Nat), getT (zipT n vs) k = if n ≤ k then (vs[k - n]?).getD (.l .un) else .l .un
  | [], n, k => by simp [zipT, getT]
  | v :: vs, n, k => by
    rw [zipT, getT_cons, getT_zipT vs (n + 1) k]
    by_cases h : n = k
    · subst h; simp
    · rw [if_neg h]
      by_cases h2 : n ≤ k
      · rw [if_pos h2, if_pos (by omega)]
        have : k - n = (k - (n + 1)) + 1 := by omega
        rw [this, List.getElem?_cons_succ]
      · rw [if_neg h2, if_neg (by omega)]
theorem sameShape.symm {x y : Obj} (h : sameShape x y) : sameShape y x := by
  cases x <;> cases y <;> simp [sameShape] at h ⊢
  obtain ⟨rfl, rfl, h⟩ := h
  exact ⟨rfl, rfl, h.symm⟩
theorem sameShape_ren {x : Obj} (ren : Nat → Nat) : sameShape x (renO ren x) := by
  cases x with
  | row => exact ⟨rfl, rfl, rfl⟩
  | box => trivial
theorem frz_same {id : Nat} {t : Ty} {xs : List t.den} (x : Obj) : sameShape x (frzObj id t xs x) := by
  cases x with
  | row => exact ⟨rfl, rfl, rfl⟩
  | box => trivial
theorem frz_back {s : St} {id n : Nat} {x' : Obj} (h : getO (s.frz id).o n = some (some x')) : ∃ x, getO s.o n = some (some x) ∧ sameShape x x' ∧ (n = id → ∀ e t xs, x ≠ .row e t xs) := by
  unfold St.frz at h
  split at h
  · rename_i e t xs hid
    rw [getO_cons, getO_frz] at h
    split at h
    · cases h
    · rename_i hne
      cases hn : getO s.o n with
      | none => rw [hn] at h; cases h
      | some z =>
        cases z with
        | none => rw [hn] at h; cases h
        | some z =>
          rw [hn] at h
          cases h
          exact ⟨z, rfl, frz_same z, fun e => absurd e.symm hne⟩
  · rename_i hno
    exact ⟨x', h, sameShape.refl x', fun e => by subst e; rintro e t xs rfl; exact hno _ _ _ h⟩
theorem frzIds_back {n : Nat} : ∀ {ids : List Nat} {s : St} {x' : Obj}, getO (frzIds s ids).o n = some (some x') → ∃ x, getO s.o n = some (some x) ∧ sameShape x x' ∧ (n ∈ ids → ∀ e t xs, x ≠ .row e t xs)
  | [], s, x', h => ⟨x', h, sameShape.refl x', fun h => by simp at h⟩
  | id :: r, s, x', h => by
    obtain ⟨x, h1, h2, h3⟩ := frzIds_back (ids := r) h
    obtain ⟨y, k1, k2, k3⟩ := frz_back h1
    refine ⟨y, k1, k2.trans h2, fun hm => ?_⟩
    rcases List.mem_cons.1 hm with e | e
    · exact k3 e
    · rintro e' t xs rfl
      cases x with
      | row e2 t2 xs2 => exact h3 e _ _ _ rfl
      | box => exact k2.elim
theorem frz_fwd {s : St} {id n : Nat} {x : Obj} (hn : n ≠ id) (h : getO s.o n = some (some x)) : ∃ x', getO (s.frz id).o n = some (some x') ∧ sameShape x x' := by
  rcases frz_look s id n hn with h1 | ⟨e, ls, ls', h1, h2⟩
  · exact ⟨x, h1.trans h, sameShape.refl x⟩
  · rw [h] at h1
    cases h1
    exact ⟨_, h2, trivial⟩
theorem frzIds_fwd {n : Nat} : ∀ {ids : List Nat} {s : St} {x : Obj}, n ∉ ids → getO s.o n = some (some x) → ∃ x', getO (frzIds s ids).o n = some (some x') ∧ sameShape x x'
  | [], s, x, _, h => ⟨x, h, sameShape.refl x⟩
  | id :: r, s, x, hn, h => by
    obtain ⟨x1, h1, h2⟩ := frz_fwd (fun e => hn (List.mem_cons.2 (.inl e))) h
    obtain ⟨x2, h3, h4⟩ := frzIds_fwd (ids := r) (fun e => hn (List.mem_cons_of_mem _ e)) h1
    exact ⟨x2, h3, h2.trans h4⟩

section
variable {P : Program} {X : Nat → Prop} {w0 : World} {ρ0 : P0} {mn : List Nat} {nt : Nat} {s : St} {ρ : Pl} {a : Act} {w : World} {oper : Oper}
theorem handed_mem {m : Nm} {id : Nat} : id ∈ handed m ↔ isAct id = true ∧ ∃ p ∈ m, p.2 = id := by
  unfold handed
  rw [List.mem_filter, List.mem_map]
  constructor
  · rintro ⟨⟨p, h1, h2⟩, h3⟩; exact ⟨h3, p, h1, h2⟩
  · rintro ⟨h3, p, h1, h2⟩; exact ⟨⟨p, h1, h2⟩, h3⟩
theorem handed_of {m : Nm} {n id : Nat} (h : nmGet m n = some id) (ha : isAct id = true) : id ∈ handed m := handed_mem.2 ⟨ha, _, nmGet_mem h, rfl⟩
/-- the names in a list of bindings are all found -/
def AllGet (m : Nm) : Prop := ∀ p ∈ m, nmGet m p.1 = some p.2

theorem getO_append : ∀ (a b : Objs) (n : Nat), getO (a ++ b) n = match getO a n with
    | some v => some v
    | none => getO b n
  | [], b, n => rfl
  | (k, v) :: r, b, n => by
    rw [List.cons_append, getO_cons, getO_cons, getO_append r b n]
    split <;> rfl
theorem getO_none_of {os : Objs} {n : Nat} (h : n ∉ os.map (·.1)) : getO os n = none := by
  cases hg : getO os n with
  | none => rfl
  | some v => exact absurd (List.mem_map_of_mem (f := (·.1)) (mem_of_getO hg)) h
theorem getO_drops (l : List Nat) (n : Nat) : getO (l.map fun a => (a, (none : Option Obj))) n = if n ∈ l then some none else none := by
  induction l with
  | nil => simp [getO]
  | cons b r ih =>
    rw [List.map_cons, getO_cons, ih]
    by_cases h : b = n
    · subst h; simp
    · rw [if_neg h]
      have : n ∈ b :: r ↔ n ∈ r := by
        rw [List.mem_cons]
        constructor
        · rintro (e | e)
          · exact absurd e.symm h
          · exact e
        · exact .inr
      simp only [this]
theorem getO_ren {os : Objs} {ren : Nat → Nat} (hnd : (os.map (·.1)).Nodup) (hinj : ∀ n n', n ∈ os.map (·.1) → n' ∈ os.map (·.1) → ren n = ren n' → n = n') :
    (∀ n, n ∈ os.map (·.1) → getO (os.map (renP ren)) (ren n) = (getO os n).map (Option.map (renO ren))) ∧ ∀ id, (∀ n ∈ os.map (·.1), ren n ≠ id) → getO (os.map (renP ren)) id = none := by
  constructor
  · intro n hn
    obtain ⟨p, hp, rfl⟩ := List.mem_map.1 hn
    obtain ⟨k, v⟩ := p
    rw [getO_of_mem hnd hp]
    refine getO_of_mem ?_ (List.mem_map.2 ⟨(k, v), hp, rfl⟩)
    rw [List.map_map]
    have : ((fun x => x.1) ∘ renP ren : Nat × Option Obj → Nat) = ren ∘ (·.1) := rfl
    rw [this, ← List.map_map]
    clear hp hn
    revert hinj hnd
    generalize os.map (·.1) = l
    intro hnd hinj
    induction l with
    | nil => simp
    | cons b r ih =>
      rw [List.nodup_cons] at hnd
      rw [List.map_cons, List.nodup_cons]
      refine ⟨fun hc => ?_, ih hnd.2 fun n n' h1 h2 => hinj n n' (List.mem_cons_of_mem _ h1) (List.mem_cons_of_mem _ h2)⟩
      obtain ⟨c, hc1, hc2⟩ := List.mem_map.1 hc
      have := hinj c b (List.mem_cons_of_mem _ hc1) List.mem_cons_self hc2
      subst this
      exact hnd.1 hc1
  · intro id hid
    refine getO_none_of ?_
    rw [List.map_map]
    intro hc
    obtain ⟨p, hp, hp2⟩ := List.mem_map.1 hc
    exact hid p.1 (List.mem_map_of_mem (f := (·.1)) hp) hp2
end
end Go.Pm

set_option linter.unusedVariables false
set_option linter.unusedSimpArgs false
namespace Go.Pm
open Go.RowKit

section
variable {P : Program} {X : Nat → Prop} {w0 : World} {ρ0 : P0} {mn : List Nat} {nt : Nat} {s : St} {ρ : Pl} {a : Act} {w : World} {oper : Oper}

/-- after a call -/
theorem inv_called (h : Inv X w0 ρ0 mn nt s ρ a w) {F : Fun} {m : Nm} {x : Den F.ins} {y : Den F.outs} {d : Nat} {frzl : List Nat} {v : Value} {ρ' : Pl} {w' : World}
    (dc : Dec (getO s.o) [] m (enc id F.ins x).o)
    (hmn : ∀ n ∈ F.mn, ∃ b, nmGet m n = some b ∧ isAct b = true ∧ nmGet m (mkN b) = none)
    (hmo : ∀ n ∈ F.mn, n ∈ decl F.outs) (hnd : (decl F.outs).Nodup)
    (hfresh : ∀ n ∈ decl F.outs, n ∉ F.mn → getO s.o (10000000 * (d + 1) + n) = none ∧ (10000000 * (d + 1) + n) ∉ mn)
    (hfz1 : ∀ id ∈ frzl, id ∉ handed m) (Tch : Nat → Prop) (hfz2 : hasRo F.outs = true → ∀ id, Tch id → id ∉ handed m → ∀ x, getO (frzIds s frzl).o id ≠ some (some x))
    (hout : COut F x y (fun g => X g ∨ ∃ id z c, getO s.o id = some (some z) ∧ ρ id = some (g, c) ∧ ¬ Tch id) (plOf m ρ) w v ρ' w') (hTh : ∀ id ∈ handed m, Tch id) :
    ∃ ρ1, Inv X w0 ρ0 mn nt ⟨(frzIds s frzl).t, ((enc (renOf F m d) F.outs y).o ++ ((handed m).filter fun a => !(F.mn.filterMap (nmGet m)).contains a).map fun a => (a, none)) ++ (frzIds s frzl).o⟩ ρ1 a w' ∧
      VR (getO (((enc (renOf F m d) F.outs y).o ++ ((handed m).filter fun a => !(F.mn.filterMap (nmGet m)).contains a).map fun a => (a, none)) ++ (frzIds s frzl).o)) ρ1 w'
        (BO X (getO (((enc (renOf F m d) F.outs y).o ++ ((handed m).filter fun a => !(F.mn.filterMap (nmGet m)).contains a).map fun a => (a, none)) ++ (frzIds s frzl).o)) ρ1)
        (resV (resN F.outs) (enc (renOf F m d) F.outs y)) v := by
  have hI := h.frzIds frzl
  have hO' : ∀ n, n ∈ decl F.outs → ∃ z, getO (enc id F.outs y).o n = some (some z) := by
    intro n hn
    rw [← (enc_keys F.outs y).1] at hn hnd
    obtain ⟨p, hp, rfl⟩ := List.mem_map.1 hn
    obtain ⟨k, u⟩ := p
    have := getO_of_mem hnd hp
    obtain ⟨z, rfl⟩ := enc_live this
    exact ⟨z, this⟩
  have hO'd : ∀ n u, getO (enc id F.outs y).o n = some u → n ∈ decl F.outs := by
    intro n u hu
    rw [← (enc_keys F.outs y).1]
    exact List.mem_map_of_mem (f := (·.1)) (mem_of_getO hu)
  generalize hOdef : getO (enc id F.outs y).o = O' at hO' hO'd
  -- the names
  have renM : ∀ n ∈ F.mn, ∀ b, nmGet m n = some b → renOf F m d n = b := by
    intro n hn b hb
    show cond (F.mn.contains n) ((nmGet m n).getD n) _ = b
    rw [List.contains_iff_mem.2 hn, hb]
    rfl
  have renN : ∀ n, n ∉ F.mn → renOf F m d n = 10000000 * (d + 1) + n := by
    intro n hn
    have : F.mn.contains n = false := by rw [← Bool.not_eq_true, List.contains_iff_mem]; exact hn
    show cond (F.mn.contains n) ((nmGet m n).getD n) _ = _
    rw [this]
    rfl
  have live : ∀ b n, nmGet m n = some b → isAct b = true → ∃ z, getO s.o b = some (some z) := by
    intro b n hb hab
    obtain ⟨z, h1, h2⟩ := dc.bound hb hab
    cases z with
    | row e t xs =>
      rcases h2 with ⟨h3, _⟩ | ⟨id, ys, h3, _, h4, _⟩
      · rw [hb] at h3; cases h3; rw [isAct_nl] at hab; cases hab
      · rw [hb] at h3; cases h3; exact ⟨_, h4⟩
    | box e ls => obtain ⟨id, ys, h3, _, h4, _⟩ := h2; rw [hb] at h3; cases h3; exact ⟨_, h4⟩
  have rinj : ∀ n n', n ∈ decl F.outs → n' ∈ decl F.outs → renOf F m d n = renOf F m d n' → n = n' := by
    intro n n' hn hn' he
    by_cases h1 : n ∈ F.mn <;> by_cases h2 : n' ∈ F.mn
    · obtain ⟨b, hb, _, _⟩ := hmn n h1
      obtain ⟨b', hb', _, _⟩ := hmn n' h2
      rw [renM n h1 b hb, renM n' h2 b' hb'] at he
      subst he
      exact dc.inj n n' b hb hb'
    · obtain ⟨b, hb, hab, _⟩ := hmn n h1
      rw [renM n h1 b hb, renN n' h2] at he
      obtain ⟨z, hz⟩ := live b n hb hab
      rw [he, (hfresh n' hn' h2).1] at hz
      cases hz
    · obtain ⟨b, hb, hab, _⟩ := hmn n' h2
      rw [renM n' h2 b hb, renN n h1] at he
      obtain ⟨z, hz⟩ := live b n' hb hab
      rw [← he, (hfresh n hn h1).1] at hz
      cases hz
    · rw [renN n h1, renN n' h2] at he
      omega
  -- the places
  let ρ1 : Pl := fun id => match (decl F.outs).find? (fun n => renOf F m d n == id) with
    | some n => ρ' n
    | none => ρ id
  have R1 : ∀ n ∈ decl F.outs, ρ1 (renOf F m d n) = ρ' n := by
    intro n hn
    show (match (decl F.outs).find? (fun k => renOf F m d k == renOf F m d n) with
      | some n => ρ' n
      | none => ρ _) = _
    cases hf : (decl F.outs).find? (fun k => renOf F m d k == renOf F m d n) with
    | none =>
      have := List.find?_eq_none.1 hf n hn
      simp at this
    | some k =>
      have h1 := List.mem_of_find?_eq_some hf
      have h2 := List.find?_some hf
      simp only [beq_iff_eq] at h2
      rw [rinj k n h1 hn h2]
  have R2 : ∀ id, (∀ n ∈ decl F.outs, renOf F m d n ≠ id) → ρ1 id = ρ id := by
    intro id hid
    show (match (decl F.outs).find? (fun k => renOf F m d k == id) with
      | some n => ρ' n
      | none => ρ _) = _
    cases hf : (decl F.outs).find? (fun k => renOf F m d k == id) with
    | none => rfl
    | some k =>
      have h1 := List.mem_of_find?_eq_some hf
      have h2 := List.find?_some hf
      simp only [beq_iff_eq] at h2
      exact absurd h2 (hid k h1)
  -- the objects
  have hget := getO_ren (os := (enc id F.outs y).o) (ren := renOf F m d) (by rw [(enc_keys F.outs y).1]; exact hnd) (by rw [(enc_keys F.outs y).1]; exact rinj)
  rw [(enc_keys F.outs y).1, hOdef] at hget
  have hs1 : (enc (renOf F m d) F.outs y).o = (enc id F.outs y).o.map (renP (renOf F m d)) := (enc_ren _ F.outs y).1
  have mutc : ∀ b, (F.mn.filterMap (nmGet m)).contains b = true ↔ ∃ n ∈ F.mn, nmGet m n = some b := by
    intro b; rw [List.contains_iff_mem, List.mem_filterMap]
  have G1 : ∀ n ∈ decl F.outs, getO (((enc (renOf F m d) F.outs y).o ++ ((handed m).filter fun a => !(F.mn.filterMap (nmGet m)).contains a).map fun a => (a, none)) ++ (frzIds s frzl).o) (renOf F m d n) = (O' n).map (Option.map (renO (renOf F m d))) := by
    intro n hn
    rw [getO_append, getO_append, hs1, hget.1 n hn]
    obtain ⟨z, hz⟩ := hO' n hn
    rw [hz]
    rfl
  have G2 : ∀ id, (∀ n ∈ decl F.outs, renOf F m d n ≠ id) → getO (((enc (renOf F m d) F.outs y).o ++ ((handed m).filter fun a => !(F.mn.filterMap (nmGet m)).contains a).map fun a => (a, none)) ++ (frzIds s frzl).o) id =
      if id ∈ handed m then some none else getO (frzIds s frzl).o id := by
    intro id hid
    rw [getO_append, getO_append, hs1, hget.2 id hid]
    simp only
    rw [getO_drops]
    have : (id ∈ (handed m).filter fun a => !(F.mn.filterMap (nmGet m)).contains a) ↔ id ∈ handed m := by
      rw [List.mem_filter]
      refine ⟨fun h => h.1, fun h => ⟨h, ?_⟩⟩
      rw [Bool.not_eq_true', ← Bool.not_eq_true, mutc]
      rintro ⟨n, hn, hb⟩
      exact hid n (hmo n hn) (renM n hn id hb)
    simp only [this]
    by_cases hh : id ∈ handed m
    · simp [hh]
    · simp [hh]
  generalize hodef : (((enc (renOf F m d) F.outs y).o ++ ((handed m).filter fun a => !(F.mn.filterMap (nmGet m)).contains a).map fun a => (a, none)) ++ (frzIds s frzl).o) = on at G1 G2
  have LIV : ∀ id z, getO on id = some (some z) → (∃ n zo, n ∈ decl F.outs ∧ id = renOf F m d n ∧ O' n = some (some zo) ∧ z = renO (renOf F m d) zo ∧ ρ1 id = ρ' n) ∨
      ((∀ n ∈ decl F.outs, renOf F m d n ≠ id) ∧ id ∉ handed m ∧ getO (frzIds s frzl).o id = some (some z) ∧ ρ1 id = ρ id) := by
    intro id z hz
    by_cases hex : ∃ n ∈ decl F.outs, renOf F m d n = id
    · obtain ⟨n, hn, rfl⟩ := hex
      rw [G1 n hn] at hz
      obtain ⟨zo, hzo⟩ := hO' n hn
      rw [hzo] at hz
      cases hz
      exact .inl ⟨n, zo, hn, rfl, hzo, rfl, R1 n hn⟩
    · have hex : ∀ n ∈ decl F.outs, renOf F m d n ≠ id := fun n hn e => hex ⟨n, hn, e⟩
      rw [G2 id hex] at hz
      split at hz
      · cases hz
      · rename_i hh; exact .inr ⟨hex, hh, hz, R2 id hex⟩
  -- what the callee got hold of
  have MOs : ∀ g, MO F.mn ⟨plOf m ρ, getO (enc id F.ins x).o⟩ g → ∃ id z c, id ∈ handed m ∧ getO s.o id = some (some z) ∧ ρ id = some (g, c) := by
    rintro g ⟨n, z, c, h1, h2⟩
    obtain ⟨id, z', h3, h4, h5, h6⟩ := dc.src h1 h2
    exact ⟨id, z', c, handed_of h3 h4, h5, h6⟩
  have fzh : ∀ id z, id ∈ handed m → getO s.o id = some (some z) → ∃ z', getO (frzIds s frzl).o id = some (some z') ∧ sameShape z z' := fun id z hh hz => frzIds_fwd (fun hc => hfz1 id hc hh) hz
  have mutS : ∀ n ∈ F.mn, ∀ b, nmGet m n = some b → ∀ zo, O' n = some (some zo) → ρ' n = ρ b ∧ ∃ z, getO s.o b = some (some z) ∧ sameShape z zo := by
    intro n hn b hb zo hzo
    obtain ⟨b', hb', hab, hmk⟩ := hmn n hn
    rw [hb] at hb'; cases hb'
    obtain ⟨h1, yi, h2, h3⟩ := hout.mt n hn zo (by rw [hOdef]; exact hzo)
    rw [plOf_act hb hab] at h1
    refine ⟨h1, ?_⟩
    have := dc.live h2
    cases yi with
    | row e t xs =>
      rcases this with ⟨h4, _⟩ | ⟨id, ys, h4, _, h5, h6⟩
      · rw [hb] at h4; cases h4; rw [isAct_nl] at hab; cases hab
      · rw [hb] at h4; cases h4
        rcases h6 with rfl | ⟨h7, _⟩
        · exact ⟨_, h5, h3⟩
        · exact absurd hmk h7
    | box e ls =>
      obtain ⟨id, ys, h4, _, h5, _⟩ := this
      rw [hb] at h4; cases h4
      refine ⟨_, h5, ?_⟩
      cases zo with
      | row => exact h3.elim
      | box => trivial
  have hsz := hout.fr.size
  -- what is written
  have BOc : ∀ g, BO X (getO on) ρ1 g → X g ∨ (∃ n zo c, O' n = some (some zo) ∧ ρ' n = some (g, c)) ∨ ∃ id z c, id ∉ handed m ∧ getO (frzIds s frzl).o id = some (some z) ∧ ρ id = some (g, c) := by
    rintro g (hg | ⟨id, z, c, h1, h2⟩)
    · exact .inl hg
    · rcases LIV id z h1 with ⟨n, zo, hn, rfl, hzo, rfl, hp⟩ | ⟨_, hh, hz, hp⟩
      · rw [hp] at h2; exact .inr (.inl ⟨n, zo, c, hzo, h2⟩)
      · rw [hp] at h2; exact .inr (.inr ⟨id, z, c, hh, hz, h2⟩)
  have newold : ∀ n zo g c, O' n = some (some zo) → ρ' n = some (g, c) → w.heap.size ≤ g ∨ ∃ id z c', id ∈ handed m ∧ getO (frzIds s frzl).o id = some (some z) ∧ ρ id = some (g, c') := by
    intro n zo g c hzo hp
    rcases hout.own n zo g c (by rw [hOdef]; exact hzo) hp with h1 | h1
    · exact .inl h1
    · obtain ⟨id, z, c', h2, h3, h4⟩ := MOs g h1
      obtain ⟨z', h5, _⟩ := fzh id z h2 h3
      exact .inr ⟨id, z', c', h2, h5, h4⟩
  have hext : Ext (getO (frzIds s frzl).o) ρ (getO on) ρ1 := by
    intro id
    by_cases hex : ∃ n ∈ decl F.outs, renOf F m d n = id
    · obtain ⟨n, hn, rfl⟩ := hex
      obtain ⟨zo, hzo⟩ := hO' n hn
      have hg := G1 n hn
      rw [hzo] at hg
      by_cases hm : n ∈ F.mn
      · obtain ⟨b, hb, hab, _⟩ := hmn n hm
        have hr1 := R1 n hn
        rw [renM n hm b hb] at hg hr1 ⊢
        obtain ⟨h1, z, h2, h3⟩ := mutS n hm b hb zo hzo
        obtain ⟨z', h4, h5⟩ := fzh b z (handed_of hb hab) h2
        rw [h4]
        simp only
        refine .inr ⟨_, hg, ?_, hr1.trans h1⟩
        exact (h5.symm.trans h3).trans (sameShape_ren _)
      · rw [renN n hm]
        rw [getO_frzIds_none _ frzl s (hfresh n hn hm).1]
        trivial
    · have hex : ∀ n ∈ decl F.outs, renOf F m d n ≠ id := fun n hn e => hex ⟨n, hn, e⟩
      have hg := G2 id hex
      split
      · trivial
      · rename_i ho
        rw [hg, ho]
        split <;> rfl
      · rename_i z ho
        rw [hg]
        split
        · exact .inl rfl
        · exact .inr ⟨z, ho, sameShape.refl z, R2 id hex⟩
  have hkeep : Keep w (BO X (getO (frzIds s frzl).o) ρ) w' (BO X (getO on) ρ1) := by
    refine ⟨hsz, fun b hb hB => ⟨fun hc => ?_, hout.fr.block b hb fun hM => ?_⟩⟩
    · rcases BOc b hc with h1 | ⟨n, zo, c, h1, h2⟩ | ⟨id, z, c, _, h1, h2⟩
      · exact hB (.inl h1)
      · rcases newold n zo b c h1 h2 with h3 | ⟨id, z, c', _, h4, h5⟩
        · omega
        · exact hB (.inr ⟨id, z, c', h4, h5⟩)
      · exact hB (.inr ⟨id, z, c, h1, h2⟩)
    · obtain ⟨id, z, c, h1, h2, h3⟩ := MOs b hM
      obtain ⟨z', h4, _⟩ := fzh id z h1 h2
      exact hB (.inr ⟨id, z', c, h4, h3⟩)
  -- what the callee's readable values may refer to
  have hkeepR : hasRo F.outs = true → Keep w' (BO (fun g => X g ∨ ∃ id z c, getO s.o id = some (some z) ∧ ρ id = some (g, c) ∧ ¬ Tch id) O' ρ') w' (BO X (getO on) ρ1) := by
    intro hro
    refine ⟨Nat.le_refl _, fun b hb hB => ⟨fun hc => ?_, rfl⟩⟩
    rcases BOc b hc with h1 | ⟨n, zo, c, h1, h2⟩ | ⟨id, z, c, hh, h1, h2⟩
    · exact hB (.inl (.inl h1))
    · exact hB (.inr ⟨n, zo, c, h1, h2⟩)
    · obtain ⟨z0, h3, _, _⟩ := frzIds_back h1
      refine hB (.inl (.inr ⟨id, z0, c, h3, h2, fun ht => ?_⟩))
      exact hfz2 hro id ht hh z h1
  have hOren : ∀ n u, O' n = some u → ∃ z, u = some z ∧ getO on (renOf F m d n) = some (some (renO (renOf F m d) z)) ∧ ρ1 (renOf F m d n) = ρ' n := by
    intro n u hu
    have hn := hO'd n u hu
    obtain ⟨z, hz⟩ := hO' n hn
    rw [hu] at hz
    cases hz
    refine ⟨z, rfl, ?_, R1 n hn⟩
    rw [G1 n hn, hu]
    rfl
  have hob := hout.ob
  have htm := hout.tm
  have hinj := hout.inj
  rw [hOdef] at hob htm hinj
  have hInv : Inv X w0 ρ0 mn nt ⟨(frzIds s frzl).t, on⟩ ρ1 a w' := by
    refine hI.obj on ρ1 w' hext hkeep ?_ ?_ ?_ ?_ ?_
    · intro id z hz
      rcases LIV id z hz with ⟨n, zo, hn, rfl, hzo, rfl, hp⟩ | ⟨hex, hh, hz', hp⟩
      · refine .inr (OR_ren hOren ?_ hp (hob n zo hzo))
        by_cases hro : hasRo F.outs = true
        · exact .inr (hkeepR hro)
        · have := (enc_noRo F.outs y (by simpa using hro)).2 (n, some zo) (mem_of_getO (by rw [hOdef]; exact hzo)) zo rfl
          exact .inl this
      · refine .inl ⟨hz', hp, fun g c hg => hout.fr.block g (ob_block (hI.rel.ob id z hz') hg).1 fun hM => ?_⟩
        obtain ⟨id', z', c', h1, h2, h3⟩ := MOs g hM
        obtain ⟨z'', h4, _⟩ := fzh id' z' h1 h2
        have := hI.rel.inj id id' z z'' g c c' hz' h4 hg h3
        subst this
        exact hh h1
    · intro i i' z z' g c c' hz hz' hp hp'
      rcases LIV i z hz with ⟨n, zo, hn, rfl, hzo, rfl, hq⟩ | ⟨hex, hh, hzf, hq⟩ <;> rcases LIV i' z' hz' with ⟨n', zo', hn', rfl, hzo', rfl, hq'⟩ | ⟨hex', hh', hzf', hq'⟩
      · rw [hq] at hp; rw [hq'] at hp'
        rw [hinj n n' zo zo' g c c' hzo hzo' hp hp']
      · rw [hq] at hp; rw [hq'] at hp'
        rcases newold n zo g c hzo hp with h3 | ⟨id, u, c2, h4, h5, h6⟩
        · have := (ob_block (hI.rel.ob i' z' hzf') hp').1; omega
        · have := hI.rel.inj i' id z' u g c' c2 hzf' h5 hp' h6
          subst this
          exact absurd h4 hh'
      · rw [hq] at hp; rw [hq'] at hp'
        rcases newold n' zo' g c' hzo' hp' with h3 | ⟨id, u, c2, h4, h5, h6⟩
        · have := (ob_block (hI.rel.ob i z hzf) hp).1; omega
        · have := hI.rel.inj i id z u g c c2 hzf h5 hp h6
          subst this
          exact absurd h4 hh
      · rw [hq] at hp; rw [hq'] at hp'
        exact hI.rel.inj i i' z z' g c c' hzf hzf' hp hp'
    · refine h.fr.step hout.fr.os hout.fr.tape hout.fr.output hsz fun k hk hn => hout.fr.block k hk fun hM => hn ?_
      obtain ⟨id, z, c, h1, h2, h3⟩ := MOs k hM
      exact h.own id z k c h2 h3
    · intro i z g c hz hp
      rcases LIV i z hz with ⟨n, zo, hn, rfl, hzo, rfl, hq⟩ | ⟨hex, hh, hzf, hq⟩
      · rw [hq] at hp
        rcases newold n zo g c hzo hp with h3 | ⟨id, u, c2, h4, h5, h6⟩
        · have := h.fr.size; exact .inl (by omega)
        · exact hI.own id u g c2 h5 h6
      · rw [hq] at hp; exact hI.own i z g c hzf hp
    · intro i hi z hz
      rcases LIV i z hz with ⟨n, zo, hn, e, hzo, rfl, hq⟩ | ⟨hex, hh, hzf, hq⟩
      · by_cases hm : n ∈ F.mn
        · obtain ⟨b, hb, hab, _⟩ := hmn n hm
          rw [renM n hm b hb] at e
          subst e
          obtain ⟨h1, u, h2, h3⟩ := mutS n hm i hb zo hzo
          obtain ⟨h4, q, h5, h6⟩ := h.mt i hi u h2
          exact ⟨(hq.trans h1).trans h4, q, h5, (h6.trans h3).trans (sameShape_ren _)⟩
        · rw [renN n hm] at e
          subst e
          exact absurd hi (hfresh n hn hm).2
      · rw [hq]
        exact hI.mt i hi z hzf
  refine ⟨ρ1, hInv, ?_⟩
  rw [resV_ren]
  refine VR_ren hOren ?_ htm
  by_cases hro : hasRo F.outs = true
  · exact .inr (hkeepR hro)
  · exact .inl (resV_noRo _ F.outs y (by simpa using hro))
end
end Go.Pm

set_option linter.unusedVariables false
set_option linter.unusedSimpArgs false
namespace Go.Pm
open Go.RowKit

section
variable {P : Program} {X : Nat → Prop} {w0 : World} {ρ0 : P0} {mn : List Nat} {nt : Nat} {s : St} {ρ : Pl} {a : Act} {w : World} {oper : Oper}
theorem args_val (h : Inv X w0 ρ0 mn nt s ρ a w) (args : Array Operand) (caps : List Nat) (us : List Value) (hl : us.length = caps.length)
    (hc : ∀ (j : Nat) (id : Nat) (c : Value), caps[j]? = some id → us[j]? = some c → match getO s.o id with
      | some (some x) => PtR (ρ id) x 0 0 c
      | some none => c.oneCell' = true
      | none => False) (k : Nat) :
    VR (getO s.o) ρ w (BO X (getO s.o) ρ) (getT (zipT 0 (args.toList.map s.ev ++ caps.map fun id => .l (.ptr id 0 0))) k) ((args.map a.eval ++ us.toArray).getD k undef) := by
  rw [getT_zipT, if_pos (Nat.zero_le k), Nat.sub_zero]
  have e : (args.map a.eval ++ us.toArray).getD k undef = ((args.toList.map a.eval ++ us)[k]?).getD undef := by
    rw [Array.getD_eq_getD_getElem?, ← Array.getElem?_toList]
    simp
  rw [e]
  obtain ⟨h1, h2⟩ := args_rel h args.toList
  by_cases hk : k < (args.toList.map s.ev).length
  · rw [List.getElem?_append_left hk, List.getElem?_append_left (by rw [h1]; exact hk)]
    have hk' : k < (args.toList.map a.eval).length := by rw [h1]; exact hk
    have := h2 k _ _ (List.getElem?_eq_getElem hk) (List.getElem?_eq_getElem hk')
    rw [List.getElem?_eq_getElem hk, List.getElem?_eq_getElem hk']
    exact this
  · have hk : (args.toList.map s.ev).length ≤ k := by omega
    rw [List.getElem?_append_right hk, List.getElem?_append_right (by rw [h1]; exact hk), h1, List.getElem?_map]
    generalize k - (args.toList.map s.ev).length = j
    cases hj : caps[j]? with
    | none => exact trivial
    | some id =>
      have hlt : j < us.length := by rw [hl]; exact (List.getElem?_eq_some_iff.1 hj).1
      have := hc j id us[j] hj (List.getElem?_eq_getElem hlt)
      rw [List.getElem?_eq_getElem hlt]
      simp only [Option.map_some, Option.getD_some, VR, LR]
      exact this
theorem rwIds_zipT (vs : List V) (k : Nat) (id : Nat) (h : id ∈ rwIds (getT (zipT 0 vs) k)) : id ∈ vs.flatMap rwIds := by
  rw [getT_zipT, if_pos (Nat.zero_le k)] at h
  cases hv : vs[k - 0]? with
  | none => rw [hv] at h; simp [rwIds, rwIdsL] at h
  | some v =>
    rw [hv] at h
    exact List.mem_flatMap.2 ⟨v, List.mem_of_getElem? hv, h⟩
theorem rw_notbox {O : Look} {B : Nat → Prop} {l : L} {u : Value} {id : Nat} (hid : id ∈ rwIdsL l) (h : LR O ρ w B l u) (e : TypeId) (ls : List L) : O id ≠ some (some (.box e ls)) := by
  intro hc
  cases l with
  | rw j win =>
    have : id = j := by simpa [rwIdsL] using hid
    subst this
    simp only [LR, hc] at h
  | _ => simp [rwIdsL] at hid
theorem rw_notbox_ag {O : Look} {B : Nat → Prop} {ls : List L} {cs : List Value} {id : Nat} (hid : id ∈ ls.flatMap rwIdsL) (h : AgR O ρ w B ls cs) (e : TypeId) (es : List L) : O id ≠ some (some (.box e es)) := by
  obtain ⟨l, hl, hid⟩ := List.mem_flatMap.1 hid
  obtain ⟨j, hj⟩ := List.getElem?_of_mem hl
  have hlt : j < cs.length := by rw [h.1]; exact (List.getElem?_eq_some_iff.1 hj).1
  exact rw_notbox hid (h.2 j l cs[j] hj (List.getElem?_eq_getElem hlt)).1 e es
theorem rw_notbox_v {O : Look} {B : Nat → Prop} {v : V} {u : Value} {id : Nat} (hid : id ∈ rwIds v) (h : VR O ρ w B v u) (e : TypeId) (es : List L) : O id ≠ some (some (.box e es)) := by
  cases v with
  | l x => exact rw_notbox hid h e es
  | agg ls => obtain ⟨cs, _, h⟩ := h; exact rw_notbox_ag hid h e es
  | tup vs => simp [rwIds] at hid
theorem does_call (h : Inv X w0 ρ0 mn nt s ρ a w) (hd : ∀ d, oper.dst = some d → d < nt) {c : Call} {f : Operand} (ho : oper.op = .call c) (hc : c.callee = .value f)
    {g : FuncId} {caps : List Nat} (hf : s.ev f = .l (.fn g caps)) {F : Fun} (hF : CallsD P g F) {e : Eff}
    (he : pmCall F mn (getO s.o) (oper.dst.getD 999) (c.args.toList.map s.ev ++ caps.map fun id => .l (.ptr id 0 0)) some = some e) : Does P X w0 ρ0 mn nt s e oper a w := by
  obtain ⟨⟨fn, hfn, hname, hbody⟩, hF⟩ := hF
  have hfv := h.ev f
  rw [hf] at hfv
  obtain ⟨us, hfu, hul, huc⟩ := hfv
  generalize hargs : (c.args.toList.map s.ev ++ caps.map fun id => V.l (.ptr id 0 0)) = vs at he
  have hav := args_val h c.args caps us hul huc
  rw [hargs] at hav
  unfold pmCall pmCallR at he
  split at he
  · cases he
  rename_i m hn
  obtain ⟨hck, he1⟩ := cond_some he
  clear he
  split at he1
  · cases he1
  rename_i x hx
  cases hy : F.run x with
  | none => rw [hy] at he1; cases he1
  | some y =>
  rw [hy] at he1
  simp only [Option.bind_some] at he1
  obtain ⟨hfr, he2⟩ := cond_some he1
  cases he2
  simp only [Bool.and_eq_true, List.all_eq_true, decide_eq_true_eq] at hck
  obtain ⟨⟨⟨⟨hdo, hm1⟩, hm2⟩, hnd⟩, _⟩ := hck
  -- decoding
  obtain ⟨st, hit⟩ := names_ok hn
  obtain ⟨v1, v2, v3⟩ := vals_ok hx hit
  have hlook : ∀ id v, restrict (reach vs (getO s.o)) (getO s.o) id = some v → getO s.o id = some v := fun id v h => restrict_some h
  have dcR : Dec (restrict (reach vs (getO s.o)) (getO s.o)) [] m (enc id F.ins x).o := declOk_dec (st.inj inj_nil) (st.mnok (mnok_nil [])) (st.keyok keyok_nil) hdo v1 v2
  generalize hor : restrict (reach vs (getO s.o)) (getO s.o) = or at hn hx v1 v3 dcR hlook hit
  have v1 := v1.look hlook
  have dc : Dec (getO s.o) [] m (enc id F.ins x).o := declOk_dec (st.inj inj_nil) (st.mnok (mnok_nil [])) (st.keyok keyok_nil) hdo v1 v2
  have hrv := h.relV
  let Tch : Nat → Prop := fun id => id ∈ handed m ∨ id ∈ reachRw vs or m
  have hX1 : ∀ id z g c, getO s.o id = some (some z) → ρ id = some (g, c) → Tch id → ¬ (X g ∨ ∃ id z c, getO s.o id = some (some z) ∧ ρ id = some (g, c) ∧ ¬ Tch id) := by
    rintro id z g c h1 h2 h3 (h4 | ⟨id', z', c', h4, h5, h6⟩)
    · exact hrv.xo id z g c h1 h2 h4
    · have := hrv.inj id id' z z' g c c' h1 h4 h2 h5
      subst this
      exact h6 h3
  have hrel := dec_rel (T := fun k => (c.args.map a.eval ++ us.toArray).getD k undef) (tv := getT (zipT 0 vs)) (tv' := getT (enc id F.ins x).t) (Tch := Tch)
    ⟨hav, hrv.ob, hrv.inj, hrv.xo⟩ dc (X' := fun g => X g ∨ ∃ id z c, getO s.o id = some (some z) ∧ ρ id = some (g, c) ∧ ¬ Tch id)
    (by
      rintro g (h1 | ⟨id, z, c, h1, h2, _⟩)
      · exact .inl h1
      · exact .inr ⟨id, z, c, h1, h2⟩) hX1
    (fun n id h1 h2 => .inl (handed_of h1 h2))
    (fun k id hid => .inr (List.mem_append_left _ (rwIds_zipT vs k id hid)))
    (fun n id e ls h1 h2 h3 l hl j hj => .inr (List.mem_append_right _ (List.mem_flatMap.2 ⟨id, handed_of h1 h2, by
      have : ∃ z, or id = some (some z) := by
        obtain ⟨z, _, h5⟩ := dcR.bound h1 h2
        cases z with
        | row e t xs =>
          rcases h5 with ⟨h6, _⟩ | ⟨id', ys, h6, _, h7, _⟩
          · rw [h1] at h6; cases h6; rw [isAct_nl] at h2; cases h2
          · rw [h1] at h6; cases h6; exact ⟨_, h7⟩
        | box e ls => obtain ⟨id', ys, h6, _, h7, _⟩ := h5; rw [h1] at h6; cases h6; exact ⟨_, h7⟩
      obtain ⟨z, hz⟩ := this
      have := hlook _ _ hz
      rw [h3] at this
      cases this
      rw [hz]; exact List.mem_flatMap.2 ⟨l, hl, hj⟩⟩)))
    (fun k => (v3 k).look hlook)
  have hcall := hF x y hy _ _ _ _ hrel (by
    rintro g (h1 | ⟨id, z, c, h1, h2, h3⟩)
    · refine ⟨Nat.lt_of_lt_of_le (h.x g h1).1 h.fr.size, ?_⟩
      rintro ⟨n, z, c, h4, h5⟩
      obtain ⟨id, z', _, _, h6, h7⟩ := dc.src h4 h5
      exact hrv.xo id z' g c h6 h7 h1
    · refine ⟨(ob_block (h.rel.ob id z h1) h2).1, ?_⟩
      rintro ⟨n, z1, c1, h4, h5⟩
      obtain ⟨id', z', h8, h9, h6, h7⟩ := dc.src h4 h5
      have := hrv.inj id id' z z' g c c1 h1 h6 h2 h7
      subst this
      exact h3 (.inl (handed_of h8 h9)))
  -- the step
  intro Q
  have hexec : (execOp a.eval oper).run P w = .ok (.enter g (c.args.map a.eval ++ us.toArray)) w := by
    unfold execOp
    simp only [ho, resolve, hc, hfu, Deferred.ofValue, invoke, callFunc, Sem.run_bind, Sem.run_pure, Result.andThen_ok, run_program, hfn, hname, hbody]
    simp
  unfold Oper.wp
  rw [hexec]
  show Calls P g _ w _
  refine hcall.mono ?_
  rintro en w' ⟨v, ρ', rfl, hout⟩
  simp only
  -- afterwards
  generalize hfz : (cond (hasRo F.outs) ((reachRw vs or m).filter fun id => !(handed m).contains id).eraseDups [] : List Nat) = frzl
  have hfz1 : ∀ id ∈ frzl, id ∉ handed m := by
    intro id hid hh
    subst hfz
    cases hr : hasRo F.outs with
    | false => rw [hr] at hid; simp at hid
    | true =>
      rw [hr] at hid
      simp only [cond_true, List.mem_eraseDups, List.mem_filter, Bool.not_eq_true'] at hid
      rw [List.contains_iff_mem.2 hh] at hid
      cases hid.2
  have hdd : ∀ n ∈ decl F.outs, n ∉ F.mn → getO s.o (10000000 * (oper.dst.getD 999 + 1) + n) = none ∧ (10000000 * (oper.dst.getD 999 + 1) + n) ∉ mn := by
    intro n hn hnm
    have := List.all_eq_true.1 hfr n hn
    simp only [Bool.or_eq_true, Bool.not_eq_true', Bool.or_eq_false_iff] at this
    rcases this with h1 | ⟨h1, h2⟩
    · exact absurd (List.contains_iff_mem.1 h1) hnm
    · refine ⟨?_, fun hc => ?_⟩
      · cases hg : getO s.o (10000000 * (oper.dst.getD 999 + 1) + n) with
        | none => rfl
        | some v => rw [hg] at h1; cases h1
      · rw [List.contains_iff_mem.2 hc] at h2; cases h2
  obtain ⟨ρ1, hI, hv⟩ := inv_called (d := oper.dst.getD 999) (frzl := frzl) h dc
    (fun n hn => by
      have := hm1 n hn
      cases hg : nmGet m n with
      | none => rw [hg] at this; cases this
      | some b =>
        rw [hg] at this
        simp only [Bool.and_eq_true, Option.isNone_iff_eq_none] at this
        exact ⟨b, rfl, this.1, this.2⟩)
    (fun n hn => List.contains_iff_mem.1 (hm2 n hn)) hnd hdd hfz1 Tch
    (fun hro id ht hh z hz => by
      obtain ⟨z0, h1, h2, h3⟩ := frzIds_back hz
      rcases ht with ht | ht
      · exact hh ht
      · have hin : id ∈ frzl := by
          subst hfz
          rw [hro]
          simp only [cond_true, List.mem_eraseDups, List.mem_filter, Bool.not_eq_true']
          refine ⟨ht, ?_⟩
          rw [← Bool.not_eq_true, List.contains_iff_mem]
          exact hh
        have hnb : ∀ e ls, getO s.o id ≠ some (some (.box e ls)) := by
          rcases List.mem_append.1 ht with ht | ht
          · obtain ⟨v, hv, hid⟩ := List.mem_flatMap.1 ht
            obtain ⟨k, hk⟩ := List.getElem?_of_mem hv
            have h4 := hav k
            rw [getT_zipT, if_pos (Nat.zero_le k), Nat.sub_zero, hk] at h4
            exact rw_notbox_v hid h4
          · obtain ⟨b, hb, hid⟩ := List.mem_flatMap.1 ht
            cases ho : or b with
            | none => rw [ho] at hid; simp [rwIdsO] at hid
            | some v =>
              have hob := hlook _ _ ho
              cases v with
              | none => rw [ho] at hid; simp [rwIdsO] at hid
              | some z =>
                cases z with
                | row => rw [ho] at hid; simp [rwIdsO] at hid
                | box e ls =>
                  rw [ho] at hid
                  obtain ⟨g, c, cur, _, _, hag⟩ := h.rel.ob b _ hob
                  exact rw_notbox_ag hid hag
        cases z0 with
        | row e t xs => exact h3 hin e t xs rfl
        | box e ls => exact hnb e ls h1)
    hout (fun id h => .inl h)
  refine ⟨ρ1, ?_⟩
  exact hI.put oper.dst hd hv
def OrcOk (P : Program) (C : Orc) : Prop := ∀ g F, C g = some F → CallsD P g F
/-- every operation -/
theorem op_sound {td : TypeId → TD} (htd : ∀ t, chkTD P t (td t) = true) {C : Orc} (hC : OrcOk P C) (h : Inv X w0 ρ0 mn nt s ρ a w) (hd : ∀ d, oper.dst = some d → d < nt) {e : Eff}
    (he : opEff td C mn oper s.ev (getO s.o) some = some e) : Does P X w0 ρ0 mn nt s e oper a w := by
  refine opEff_sound htd C h hd he fun c f ho hc => ?_
  unfold opEff at he
  rw [ho] at he
  simp only [hc] at he
  split at he
  · rename_i g caps hf
    split at he
    · rename_i F hF
      exact does_call h hd ho hc hf (hC g F hF) he
    · cases he
  · cases he
end
end Go.Pm

set_option linter.unusedVariables false
set_option linter.unusedSimpArgs false
namespace Go.Pm
open Go.RowKit

section
variable {R : Type} (K : Eff → Option R)
theorem chk_nat {c : Prop} [Decidable c] (e : Eff) : chk c (K e) = (chk c (some e)).bind K := by unfold chk; split <;> rfl
theorem cond_nat (b : Bool) (x : Option R) (y : Option Eff) (h : x = y.bind K) : cond b x none = (cond b y none).bind K := by cases b <;> simp [h]
theorem cond_nat' (b : Bool) (x : Option R) (y : Option Eff) (h : x = y.bind K) : cond b none x = (cond b none y).bind K := by cases b <;> simp [h]
theorem chk_nat' {c : Prop} [Decidable c] (x : Option R) (y : Option Eff) (h : x = y.bind K) : chk c x = (chk c y).bind K := by unfold chk; split <;> simp [h]
theorem pmBin_nat (td : TD) (op : BinOp) (a b : V) : pmBin td op a b K = (pmBin td op a b some).bind K := by
  unfold pmBin
  split
  · split
    · exact chk_nat K _
    · exact chk_nat K _
    · exact cond_nat K _ _ _ (chk_nat K _)
    · exact cond_nat K _ _ _ (chk_nat K _)
    · refine cond_nat K _ _ _ ?_
      split <;> rfl
  · split
    · split <;> rfl
    · rfl
  · split
    · exact chk_nat K _
    · rfl
    · rfl
    · rfl
    · rfl
  · split
    · split <;> rfl
    · rfl
  · rfl
theorem pmUn_nat (op : UnOp) (a : V) : pmUn op a K = (pmUn op a some).bind K := by
  unfold pmUn
  split <;> rfl
theorem pick_nat (td : TD) (ls : List L) (f : Nat) : pick td ls f K = (pick td ls f some).bind K := by
  unfold pick
  split
  · exact cond_nat K _ _ _ rfl
  · split <;> rfl
theorem pmLoad_nat (td : TD) (o : Look) (a : V) : pmLoad td o a K = (pmLoad td o a some).bind K := by
  unfold pmLoad
  split
  · split
    · exact pick_nat K _ _ _
    · rfl
  · exact pick_nat K _ _ _
  · rfl
theorem pmStore_nat (td : TD) (o : Look) (a v : V) : pmStore td o a v K = (pmStore td o a v some).bind K := by
  unfold pmStore
  split
  · split
    · split
      · exact cond_nat K _ _ _ rfl
      · rfl
    · split
      · exact cond_nat K _ _ _ rfl
      · exact cond_nat K _ _ _ rfl
      · split
        · exact cond_nat K _ _ _ rfl
        · rfl
      · rfl
    · rfl
  · rfl
theorem pmNew_nat (mn : List Nat) (o : Look) (d : Option Nat) (x : Obj) (v : Nat → V) (fr : List Nat) (drop : List (Nat × Option Obj)) : pmNew mn o d x v fr drop K = (pmNew mn o d x v fr drop some).bind K := by
  unfold pmNew
  split
  · exact cond_nat' K _ _ _ rfl
  · rfl
theorem pmIndexAddr_nat (τ : Ty) (o : Look) (x ix : V) : pmIndexAddr τ o x ix K = (pmIndexAddr τ o x ix some).bind K := by
  unfold pmIndexAddr
  split
  · split
    · exact cond_nat K _ _ _ (chk_nat K _)
    · split
      · refine cond_nat K _ _ _ ?_
        split
        · exact chk_nat K _
        · exact chk_nat K _
      · rfl
    · rfl
  · rfl
theorem pmIndex_nat (td : TD) (x ix : V) : pmIndex td x ix K = (pmIndex td x ix some).bind K := by
  unfold pmIndex
  split
  · exact chk_nat K _
  · rfl
theorem asInt_nat (v : V) (f : Int → Option R) (g : Int → Option Eff) (h : ∀ n, f n = (g n).bind K) : asInt v f = (asInt v g).bind K := by
  unfold asInt
  split
  · exact h _
  · rfl
theorem optInt_nat (v : Option V) (d : Int) (f : Int → Option R) (g : Int → Option Eff) (h : ∀ n, f n = (g n).bind K) : optInt v d f = (optInt v d g).bind K := by
  unfold optInt
  split
  · exact h _
  · exact asInt_nat K _ _ _ h
theorem pmSlice_nat (td : TD) (o : Look) (x : V) (lo hi mx : Option V) : pmSlice td o x lo hi mx K = (pmSlice td o x lo hi mx some).bind K := by
  unfold pmSlice
  split
  · split
    · exact optInt_nat K _ _ _ _ fun _ => optInt_nat K _ _ _ _ fun _ => chk_nat K _
    · rfl
  · split
    · refine cond_nat K _ _ _ ?_
      split
      · exact optInt_nat K _ _ _ _ fun _ => optInt_nat K _ _ _ _ fun _ => chk_nat K _
      · exact optInt_nat K _ _ _ _ fun _ => asInt_nat K _ _ _ fun _ => asInt_nat K _ _ _ fun _ => chk_nat K _
    · rfl
  · split
    · refine cond_nat K _ _ _ ?_
      split
      · split
        · exact optInt_nat K _ _ _ _ fun _ => optInt_nat K _ _ _ _ fun _ => chk_nat K _
        · exact optInt_nat K _ _ _ _ fun _ => optInt_nat K _ _ _ _ fun _ => chk_nat K _
      · rfl
    · rfl
  · rfl
theorem pmAppend_nat (mn : List Nat) (e : TypeId) (t : Ty) (o : Look) (d : Option Nat) (x y : V) : pmAppend mn e t o d x y K = (pmAppend mn e t o d x y some).bind K := by
  unfold pmAppend
  split
  · rfl
  · split
    · exact chk_nat' K _ _ (pmNew_nat K ..)
    · split
      · exact chk_nat' K _ _ (pmNew_nat K ..)
      · rfl
    · split
      · split
        · exact cond_nat K _ _ _ (chk_nat' K _ _ (pmNew_nat K ..))
        · rfl
      · rfl
    · rfl
theorem pmMinMax_nat (f : Int → Int → Int) (vs : List V) : pmMinMax f vs K = (pmMinMax f vs some).bind K := by
  unfold pmMinMax
  split
  · split <;> rfl
  · rfl
theorem pmLen_nat (td : TD) (o : Look) (x : V) : pmLen td o x K = (pmLen td o x some).bind K := by
  unfold pmLen
  split
  · rfl
  · split <;> rfl
theorem pmConvert_nat (s d : TD) (o : Look) (x : V) : pmConvert s d o x K = (pmConvert s d o x some).bind K := by
  unfold pmConvert
  split
  · rfl
  · rfl
  · split <;> rfl
  · rfl
theorem pmCall_nat (F : Fun) (mn : List Nat) (o : Look) (d : Nat) (args : List V) : pmCall F mn o d args K = (pmCall F mn o d args some).bind K := by
  unfold pmCall pmCallR
  split
  · rfl
  · refine cond_nat K _ _ _ ?_
    split
    · rfl
    · cases F.run _ with
      | none => rfl
      | some y => exact cond_nat K _ _ _ rfl
theorem opEff_nat (td : TypeId → TD) (C : Orc) (mn : List Nat) (oper : Oper) (ev : Operand → V) (o : Look) : opEff td C mn oper ev o K = (opEff td C mn oper ev o some).bind K := by
  unfold opEff
  split
  · rfl
  · rfl
  · split
    · rename_i t _
      cases t <;> rfl
    · rfl
  · exact cond_nat K _ _ _ (pmNew_nat K ..)
  · split
    · exact cond_nat K _ _ _ (pmNew_nat K ..)
    · rfl
  · split
    · split <;> rfl
    · rfl
  · split
    · refine cond_nat K _ _ _ ?_
      split
      · exact pmNew_nat K ..
      · rfl
    · rfl
  · exact pmLoad_nat K ..
  · exact pmStore_nat K ..
  · split
    · split <;> rfl
    · rfl
    · rfl
  · exact pmBin_nat K ..
  · exact pmUn_nat K ..
  · exact pmConvert_nat K ..
  · split
    · refine cond_nat K _ _ _ ?_
      split <;> rfl
    · rfl
  · split
    · exact asInt_nat K _ _ _ fun _ => asInt_nat K _ _ _ fun _ => chk_nat' K _ _ (pmNew_nat K ..)
    · rfl
  · exact pmSlice_nat K ..
  · split
    · split
      · split <;> rfl
      · rfl
      · rfl
    · rfl
  · split
    · exact pmIndexAddr_nat K ..
    · rfl
  · exact pmIndex_nat K ..
  · split
    · split <;> rfl
    · rfl
  · split
    · split
      · exact pmLen_nat K ..
      · rfl
    · split
      · refine cond_nat K _ _ _ ?_
        split
        · exact pmAppend_nat K ..
        · rfl
      · rfl
    · exact pmMinMax_nat K ..
    · exact pmMinMax_nat K ..
    · split
      · split
        · exact pmCall_nat K ..
        · rfl
      · rfl
    · rfl
  · rfl
theorem opEff_some {td : TypeId → TD} {C : Orc} {mn : List Nat} {oper : Oper} {ev : Operand → V} {o : Look} {K : Eff → Option R} {r : R} (h : opEff td C mn oper ev o K = some r) :
    ∃ e, opEff td C mn oper ev o some = some e ∧ K e = some r := by
  rw [opEff_nat] at h
  cases he : opEff td C mn oper ev o some with
  | none => rw [he] at h; cases h
  | some e => rw [he] at h; exact ⟨e, rfl, h⟩
end

section
variable {R : Type} {o o' : Look}
theorem contentOf_loc {t : Ty} {x : L} (h : ∀ id ∈ idsL x, o' id = o id) : contentOf o' t x = contentOf o t x := by
  cases x <;> first | rfl | skip
  rename_i id w
  simp only [contentOf]
  rw [h id (by simp [idsL])]
theorem toDen_loc {t : Ty} {v : V} (h : ∀ id ∈ idsV v, o' id = o id) : toDen o' t v = toDen o t v := by
  unfold toDen
  split <;> first | rfl | skip
  exact contentOf_loc h
theorem pmLoad_loc {td : TD} {a : V} {K : Eff → Option R} (h : ∀ id ∈ idsV a, o' id = o id) : pmLoad td o' a K = pmLoad td o a K := by
  unfold pmLoad
  split
  · rename_i id i f
    rw [h id (by simp [idsV, idsL])]
  · rfl
  · rfl
theorem pmStore_loc {td : TD} {a v : V} {K : Eff → Option R} (h : ∀ id ∈ idsV a, o' id = o id) (hv : ∀ id ∈ idsV v, o' id = o id) : pmStore td o' a v K = pmStore td o a v K := by
  have e : ∀ t, toDen o' t v = toDen o t v := fun t => toDen_loc hv
  unfold pmStore
  split
  · rename_i id i f
    rw [h id (by simp [idsV, idsL])]
    split
    · rfl
    · split
      · rfl
      · rfl
      · rw [e]
      · rfl
    · rfl
  · rfl
theorem pmNew_loc {mn : List Nat} {d : Option Nat} {x : Obj} {v : Nat → V} {fr : List Nat} {drop : List (Nat × Option Obj)} {K : Eff → Option R} (h : ∀ d', d = some d' → o' d' = o d') : pmNew mn o' d x v fr drop K = pmNew mn o d x v fr drop K := by
  unfold pmNew
  split
  · rename_i d'
    rw [h d' rfl]
  · rfl
theorem pmIndexAddr_loc {τ : Ty} {x ix : V} {K : Eff → Option R} (h : ∀ id ∈ idsV x, o' id = o id) : pmIndexAddr τ o' x ix K = pmIndexAddr τ o x ix K := by
  unfold pmIndexAddr
  split
  · split
    · rfl
    · rename_i id w
      rw [h id (by simp [idsV, idsL])]
    · rfl
  · rfl
theorem pmSlice_loc {td : TD} {x : V} {lo hi mx : Option V} {K : Eff → Option R} (h : ∀ id ∈ idsV x, o' id = o id) : pmSlice td o' x lo hi mx K = pmSlice td o x lo hi mx K := by
  unfold pmSlice
  split
  · rfl
  · rfl
  · rename_i id w
    rw [h id (by simp [idsV, idsL])]
  · rfl
theorem lenOf_loc {x : V} (h : ∀ id ∈ idsV x, o' id = o id) : lenOf o' x = lenOf o x := by
  unfold lenOf
  split <;> first | rfl | skip
  rename_i id w
  rw [h id (by simp [idsV, idsL])]
theorem srcOf_loc {t : Ty} {x : V} (h : ∀ id ∈ idsV x, o' id = o id) : srcOf o' t x = srcOf o t x := by
  unfold srcOf
  split
  · exact contentOf_loc h
  · rfl
theorem pmAppend_loc {mn : List Nat} {e : TypeId} {t : Ty} {d : Option Nat} {x y : V} {K : Eff → Option R} (hx : ∀ id ∈ idsV x, o' id = o id) (hy : ∀ id ∈ idsV y, o' id = o id) (hd : ∀ d', d = some d' → o' d' = o d') :
    pmAppend mn e t o' d x y K = pmAppend mn e t o d x y K := by
  have en : ∀ x v fr drop, pmNew mn o' d x v fr drop K = pmNew mn o d x v fr drop K := fun x v fr drop => pmNew_loc hd
  unfold pmAppend
  rw [srcOf_loc hy]
  split
  · rfl
  · simp only [en]
    split
    · rfl
    · rfl
    · rename_i id
      rw [hx id (by simp [idsV, idsL])]
    · rfl
theorem pmConvert_loc {s d : TD} {x : V} {K : Eff → Option R} (h : ∀ id ∈ idsV x, o' id = o id) : pmConvert s d o' x K = pmConvert s d o x K := by
  unfold pmConvert
  split
  · rfl
  · rfl
  · rw [contentOf_loc (by simpa [idsV] using h)]
  · rfl
theorem partsVals_loc {ev ev' : Operand → V} {t : Ty} : ∀ (ps : List (Nat × Operand)) (i : Nat), (∀ p ∈ ps, ev' p.2 = ev p.2 ∧ ∀ id ∈ idsV (ev p.2), o' id = o id) → partsVals ev' t o' i ps = partsVals ev t o i ps
  | [], _, _ => rfl
  | (j, x) :: r, i, h => by
    obtain ⟨h1, h2⟩ := h _ List.mem_cons_self
    simp only [partsVals]
    rw [h1, toDen_loc h2, partsVals_loc r (i + 1) fun p hp => h p (List.mem_cons_of_mem _ hp)]
theorem fillLeaves_loc {ev ev' : Operand → V} {offs : List (Nat × Nat)} : ∀ (ps : List (Nat × Operand)) (ls : List L), (∀ p ∈ ps, ev' p.2 = ev p.2) → fillLeaves ev' offs ls ps = fillLeaves ev offs ls ps
  | [], _, _ => rfl
  | (j, x) :: r, ls, h => by
    have ih := fun ls => fillLeaves_loc (offs := offs) r ls fun p hp => h p (List.mem_cons_of_mem _ hp)
    simp only [fillLeaves]
    rw [h _ List.mem_cons_self]
    simp only [ih]
theorem reach_loc {args : List V} (h : ∀ id ∈ args.flatMap idsV, o' id = o id) : reach args o' = reach args o := by
  unfold reach
  congr 1
  generalize args.flatMap idsV = l at h
  induction l with
  | nil => rfl
  | cons a r ih =>
    rw [List.flatMap_cons, List.flatMap_cons, h a List.mem_cons_self, ih fun id hid => h id (List.mem_cons_of_mem _ hid)]
theorem restrict_loc {fp : List Nat} (h : ∀ id ∈ fp, o' id = o id) : restrict fp o' = restrict fp o := by
  funext id
  unfold restrict
  cases hc : fp.contains id with
  | true => simp only [cond_true]; exact h id (List.contains_iff_mem.1 hc)
  | false => rfl
theorem pmCall_loc {F : Fun} {mn : List Nat} {d : Nat} {args : List V} {e : Eff} (he : pmCall F mn o d args some = some e) (h : ∀ id ∈ reach args o, o' id = o id) (hk : ∀ p ∈ e.o, o' p.1 = o p.1) : pmCall F mn o' d args some = some e := by
  have h1 : reach args o' = reach args o := reach_loc fun id hid => h id (List.mem_append_left _ hid)
  unfold pmCall at he ⊢
  rw [h1, restrict_loc h]
  generalize restrict (reach args o) o = or at he
  unfold pmCallR at he ⊢
  split at he
  · cases he
  rename_i m hm
  obtain ⟨h2, he1⟩ := cond_some he
  rw [h2]
  simp only [cond_true]
  split at he1
  · cases he1
  rename_i x hx
  cases hy : F.run x with
  | none => rw [hy] at he1; cases he1
  | some y =>
    rw [hy] at he1
    simp only [Option.bind_some] at he1 ⊢
    obtain ⟨h3, he2⟩ := cond_some he1
    have hcond : ((decl F.outs).all fun n => F.mn.contains n || !((o' (10000000 * (d + 1) + n)).isSome || mn.contains (10000000 * (d + 1) + n))) = true := by
      rw [List.all_eq_true] at h3 ⊢
      intro n hn
      have h4 := h3 n hn
      cases hm : F.mn.contains n with
      | true => rfl
      | false =>
        rw [hm] at h4
        have : (10000000 * (d + 1) + n) ∈ (enc (renOf F m d) F.outs y).o.map (·.1) := by
          rw [(enc_ren (renOf F m d) F.outs y).1, List.map_map]
          have hn' := hn
          rw [← (enc_keys F.outs y).1] at hn'
          obtain ⟨p, hp, rfl⟩ := List.mem_map.1 hn'
          refine List.mem_map.2 ⟨p, hp, ?_⟩
          show cond (F.mn.contains p.1) _ _ = _
          rw [hm]; rfl
        obtain ⟨p, hp, hpe⟩ := List.mem_map.1 this
        have := hk p (by cases he2; exact List.mem_append_left _ hp)
        rw [hpe] at this
        rw [this]
        exact h4
    rw [hcond]
    exact he2
end
/-- what an operation looks at -/
def looks (oper : Oper) (ev : Operand → V) (o : Look) : List Nat :=
  oper.dst.toList ++ (cond (looksAt oper.op) (oper.op.operands.toList.flatMap fun x => idsV (ev x)) []) ++ (cond (looksAt oper.op) (oper.op.operands.toList.flatMap fun x => idsV (ev x)) []).flatMap fun id => idsO (o id)
end Go.Pm

set_option linter.unusedVariables false
set_option linter.unusedSimpArgs false
namespace Go.Pm
open Go.RowKit

section
variable {td : TypeId → TD} {C : Orc} {mn : List Nat}
theorem opEff_loc {oper : Oper} {ev ev' : Operand → V} {o o' : Look} {e : Eff} (he : opEff td C mn oper ev o some = some e)
    (hev : ∀ x ∈ oper.op.operands.toList, ev' x = ev x) (hl : ∀ id ∈ looks oper ev o, o' id = o id) (hk : ∀ p ∈ e.o, o' p.1 = o p.1) : opEff td C mn oper ev' o' some = some e := by
  have hd : ∀ d', oper.dst = some d' → o' d' = o d' := fun d' hd' => hl d' (by unfold looks; rw [hd']; simp)
  have hx : looksAt oper.op = true → ∀ x ∈ oper.op.operands.toList, ∀ id ∈ idsV (ev x), o' id = o id := fun hk x hx id hid => hl id (by
    unfold looks; rw [hk]; exact List.mem_append_left _ (List.mem_append_right _ (List.mem_flatMap.2 ⟨x, hx, hid⟩)))
  have hy : looksAt oper.op = true → ∀ x ∈ oper.op.operands.toList, ∀ id ∈ idsV (ev x), ∀ j ∈ idsO (o id), o' j = o j := fun hk x hx id hid j hj => hl j (by
    unfold looks; rw [hk]; exact List.mem_append_right _ (List.mem_flatMap.2 ⟨id, List.mem_flatMap.2 ⟨x, hx, hid⟩, hj⟩))
  clear hl
  unfold opEff at he ⊢
  generalize oper.op = op at he hev hx hy ⊢
  cases op with
  | move x => dsimp only at he ⊢; simp only [Op.operands] at hev; rw [hev x (by simp)]; exact he
  | assign x => dsimp only at he ⊢; simp only [Op.operands] at hev; rw [hev x (by simp)]; exact he
  | pick c a b => dsimp only at he ⊢; simp only [Op.operands] at hev; simp only [hev c (by simp), hev a (by simp), hev b (by simp)]; exact he
  | alloc e => dsimp only at he ⊢; simp only [pmNew_loc hd]; exact he
  | box e x => dsimp only at he ⊢; simp only [Op.operands] at hev; simp only [hev x (by simp), pmNew_loc hd]; exact he
  | build t ps =>
    dsimp only at he ⊢
    simp only [Op.operands] at hev
    have h1 : ∀ ls, fillLeaves ev' (td t).offs ls ps.toList = fillLeaves ev (td t).offs ls ps.toList := fun ls => fillLeaves_loc _ _ fun p hp => hev p.2 (by simpa using ⟨p.1, by simpa using hp⟩)
    simp only [h1]
    exact he
  | buildSlice t n ps =>
    dsimp only at he ⊢
    have hx := hx rfl
    simp only [Op.operands] at hev hx
    have h0 : ∀ p ∈ ps.toList, ev' p.2 = ev p.2 := fun p hp => hev p.2 (by simpa using ⟨p.1, by simpa using hp⟩)
    have h1 : ∀ τ, partsVals ev' τ o' 0 ps.toList = partsVals ev τ o 0 ps.toList := fun τ => partsVals_loc _ _ fun p hp => ⟨h0 p hp, hx p.2 (by simpa using ⟨p.1, by simpa using hp⟩)⟩
    have h2 : (ps.toList.flatMap fun p => rwIds (ev' p.2)) = ps.toList.flatMap fun p => rwIds (ev p.2) := by
      rw [List.flatMap_def, List.flatMap_def]
      congr 1
      exact List.map_congr_left fun p hp => by rw [h0 p hp]
    simp only [h1, h2, pmNew_loc hd]
    exact he
  | load t a => dsimp only at he ⊢; have hx := hx rfl; simp only [Op.operands] at hev hx; simp only [hev a (by simp), pmLoad_loc (hx a (by simp))]; exact he
  | store t a x => dsimp only at he ⊢; have hx := hx rfl; simp only [Op.operands] at hev hx; simp only [hev a (by simp), hev x (by simp), pmStore_loc (hx a (by simp)) (hx x (by simp))]; exact he
  | nilCheck x =>
    dsimp only at he ⊢
    have hx := hx rfl
    simp only [Op.operands] at hev hx
    simp only [hev x (by simp)]
    have hx := hx x (by simp)
    split at he
    · rename_i id i f hv
      rw [hv] at hx
      rw [hx id (by simp [idsV, idsL])]
      exact he
    · exact he
    · cases he
  | binOp op t x y z => dsimp only at he ⊢; simp only [Op.operands] at hev; simp only [hev x (by simp), hev y (by simp)]; exact he
  | unOp op t x => dsimp only at he ⊢; simp only [Op.operands] at hev; simp only [hev x (by simp)]; exact he
  | convert s t x => dsimp only at he ⊢; have hx := hx rfl; simp only [Op.operands] at hev hx; simp only [hev x (by simp), pmConvert_loc (hx x (by simp))]; exact he
  | makeFunc fn first caps =>
    dsimp only at he ⊢
    simp only [Op.operands] at hev
    have : caps.toList.map ev' = caps.toList.map ev := List.map_congr_left fun x hx => hev x (by simp only [Array.toList_append]; exact List.mem_append_right _ hx)
    simp only [this]
    exact he
  | makeSlice t l c => dsimp only at he ⊢; simp only [Op.operands] at hev; simp only [hev l (by simp), hev c (by simp), pmNew_loc hd]; exact he
  | slice t x lo hi mx =>
    dsimp only at he ⊢
    have hx := hx rfl
    simp only [Op.operands] at hev hx
    have h1 : lo.map ev' = lo.map ev := by cases lo with
      | none => rfl
      | some y => simp only [Option.map_some]; rw [hev y (by simp)]
    have h2 : hi.map ev' = hi.map ev := by cases hi with
      | none => rfl
      | some y => simp only [Option.map_some]; rw [hev y (by simp)]
    have h3 : mx.map ev' = mx.map ev := by cases mx with
      | none => rfl
      | some y => simp only [Option.map_some]; rw [hev y (by simp)]
    simp only [hev x (by simp), h1, h2, h3, pmSlice_loc (hx x (by simp))]
    exact he
  | fieldAddr s x k =>
    dsimp only at he ⊢
    have hx := hx rfl
    simp only [Op.operands] at hev hx
    simp only [hev x (by simp)]
    have hx := hx x (by simp)
    split at he
    · split at he
      · rename_i id i g hv
        rw [hv] at hx
        rw [hx id (by simp [idsV, idsL])]
        exact he
      · exact he
      · cases he
    · cases he
  | indexAddr t x ix =>
    dsimp only at he ⊢
    have hx := hx rfl
    simp only [Op.operands] at hev hx
    simp only [hev x (by simp), hev ix (by simp), pmIndexAddr_loc (hx x (by simp))]
    exact he
  | index t x ix => dsimp only at he ⊢; simp only [Op.operands] at hev; simp only [hev x (by simp), hev ix (by simp)]; exact he
  | extract x k => dsimp only at he ⊢; simp only [Op.operands] at hev; simp only [hev x (by simp)]; exact he
  | call c =>
    have hx := hx rfl
    have hy := hy rfl
    simp only [Op.operands] at hev hx hy
    obtain ⟨callee, args, argTypes⟩ := c
    have hargs : ∀ x ∈ args.toList, x ∈ (Call.operands ⟨callee, args, argTypes⟩).toList := by
      intro x hx'
      unfold Call.operands
      rw [Array.toList_append]
      exact List.mem_append_right _ hx'
    have hmap : args.toList.map ev' = args.toList.map ev := List.map_congr_left fun x hx => hev x (hargs x hx)
    simp only at he ⊢
    cases callee with
    | builtin b =>
      cases b <;> first | exact he | skip
      · simp only at he ⊢
        split at he
        · rename_i x y t t' hx' ht'
          rw [hx'] at hargs
          simp only [hx', ht', hev x (hargs x (by simp)), hev y (hargs y (by simp)), pmAppend_loc (hx x (hargs x (by simp))) (hx y (hargs y (by simp))) hd]
          exact he
        · cases he
      · simp only at he ⊢
        split at he
        · rename_i x t hx' ht'
          rw [hx'] at hargs
          simp only [hx', ht', hev x (hargs x (by simp))]
          unfold pmLen at he ⊢
          rw [lenOf_loc (hx x (hargs x (by simp)))]
          exact he
        · cases he
      · simp only [hmap] at he ⊢; exact he
      · simp only [hmap] at he ⊢; exact he
    | value f =>
      have hf : f ∈ (Call.operands ⟨.value f, args, argTypes⟩).toList := by simp [Call.operands]
      simp only [hmap, hev f hf] at he ⊢
      split at he
      · rename_i g caps hv
        split at he
        · rename_i F hF
          refine pmCall_loc he ?_ hk
          have hids : ∀ id, id ∈ (args.toList.map ev ++ caps.map fun id => V.l (.ptr id 0 0)).flatMap idsV → ∃ x ∈ (Call.operands ⟨.value f, args, argTypes⟩).toList, id ∈ idsV (ev x) := by
            intro id hid
            rw [List.flatMap_append] at hid
            rcases List.mem_append.1 hid with hid | hid
            · obtain ⟨v, hv', hid⟩ := List.mem_flatMap.1 hid
              obtain ⟨x, hx', rfl⟩ := List.mem_map.1 hv'
              exact ⟨x, hargs x hx', hid⟩
            · obtain ⟨v, hv', hid⟩ := List.mem_flatMap.1 hid
              obtain ⟨j, hj, rfl⟩ := List.mem_map.1 hv'
              refine ⟨f, hf, ?_⟩
              rw [hv]
              have : id = j := by simpa [idsV, idsL] using hid
              subst this
              exact hj
          intro id hid
          unfold reach at hid
          rcases List.mem_append.1 hid with hid | hid
          · obtain ⟨x, h1, h2⟩ := hids id hid
            exact hx x h1 id h2
          · obtain ⟨j, hj, hid⟩ := List.mem_flatMap.1 hid
            obtain ⟨x, h1, h2⟩ := hids j hj
            exact hy x h1 j h2 id hid
        · cases he
      · cases he
    | invoke r n => exact he
  | _ => exact he
end
end Go.Pm

set_option linter.unusedVariables false
set_option linter.unusedSimpArgs false
namespace Go.Pm
open Go.RowKit

/-- alike to look at -/
def Eqv (s t : St) : Prop := getT s.t = getT t.t ∧ getO s.o = getO t.o
theorem Eqv.refl (s : St) : Eqv s s := ⟨rfl, rfl⟩
theorem Eqv.symm {s t : St} (h : Eqv s t) : Eqv t s := ⟨h.1.symm, h.2.symm⟩
theorem Eqv.trans {s t u : St} (h : Eqv s t) (k : Eqv t u) : Eqv s u := ⟨h.1.trans k.1, h.2.trans k.2⟩
def evF (tv : Nat → V) : Operand → V
  | .tmp t => tv t
  | .const v => ofConst v
  | .func f => .l (.fn f [])
  | .global _ => .l .un
theorem ev_evF (s : St) : s.ev = evF (getT s.t) := by funext x; cases x <;> rfl
theorem Eqv.ev {s t : St} (h : Eqv s t) : s.ev = t.ev := by rw [ev_evF, ev_evF, h.1]
theorem getT_put (s : St) (d : Option Nat) (v : V) (k : Nat) : getT (s.put d v).t k = if d = some k then v else getT s.t k := by
  cases d with
  | none => simp [St.put]
  | some d => simp only [St.put, getT_cons, Option.some.injEq]
theorem Eqv.put {s t : St} (h : Eqv s t) (d : Option Nat) (v : V) : Eqv (s.put d v) (t.put d v) := by
  refine ⟨funext fun k => by rw [getT_put, getT_put, h.1], ?_⟩
  cases d <;> exact h.2
theorem Eqv.frz {s t : St} (h : Eqv s t) (id : Nat) : Eqv (s.frz id) (t.frz id) := by
  unfold St.frz
  rw [h.2]
  split
  · rename_i e τ xs hid
    refine ⟨funext fun k => by rw [getT_frz, getT_frz, h.1], funext fun k => ?_⟩
    rw [getO_cons, getO_cons, getO_frz, getO_frz, h.2]
  · exact h
theorem Eqv.frzIds : ∀ (ids : List Nat) {s t : St}, Eqv s t → Eqv (Pm.frzIds s ids) (Pm.frzIds t ids)
  | [], _, _, h => h
  | id :: r, _, _, h => Eqv.frzIds r (h.frz id)
theorem Eqv.objs {s t : St} (h : Eqv s t) (os : Objs) : Eqv ⟨s.t, os ++ s.o⟩ ⟨t.t, os ++ t.o⟩ := by
  refine ⟨h.1, funext fun k => ?_⟩
  show getO (os ++ s.o) k = getO (os ++ t.o) k
  rw [getO_append, getO_append, h.2]
theorem Eqv.app {s t : St} (h : Eqv s t) (d : Option Nat) (e : Eff) : Eqv (s.app d e) (t.app d e) := ((h.frzIds e.frz).objs e.o).put d e.v
theorem Eqv.same {s : St} {k : Nat} {v : V} (h : getT s.t k = v) : Eqv ⟨(k, v) :: s.t, s.o⟩ s := by
  refine ⟨funext fun j => ?_, rfl⟩
  show getT ((k, v) :: s.t) j = _
  rw [getT_cons]
  split
  · rename_i e; rw [← e, h]
  · rfl
theorem Inv.eqv {X : Nat → Prop} {w0 : World} {ρ0 : P0} {mn : List Nat} {nt : Nat} {s t : St} {ρ : Pl} {a : Act} {w : World} (h : Inv X w0 ρ0 mn nt s ρ a w) (he : Eqv s t) : Inv X w0 ρ0 mn nt t ρ a w :=
  h.congr (fun k => by rw [he.1]) (fun k => by rw [he.2])

section
variable (td : TypeId → TD) (C : Orc) (mn : List Nat) (ops : Array Oper)
def unE : Eff := ⟨.tup [], [], []⟩
/-- what one operation does, and where it looked -/
def oneE (i : Nat) (oper : Oper) (s : St) : Option (Eff × Log) :=
  match oper.guard with
  | none => (opEff td C mn oper s.ev (getO s.o) some).map fun e => (e, logOf i oper [] s.ev (getO s.o) e)
  | some (j, want) => match (ops[j]?).bind (·.dst) with
    | none => none
    | some dg => match getT s.t dg with
      | .l (.p (.bool b)) => if b = want then (opEff td C mn oper s.ev (getO s.o) some).map fun e => (e, logOf i oper [dg] s.ev (getO s.o) e)
        else some (unE, { i, rt := [dg], wt := oper.dst.toList, ro := [], wo := [], all := false })
      | .tup [] => some (unE, { i, rt := [dg], wt := oper.dst.toList, ro := [], wo := [], all := false })
      | _ => none
variable {td C mn ops}
theorem oneE_eqv {i : Nat} {oper : Oper} {s t : St} (h : Eqv s t) : oneE td C mn ops i oper s = oneE td C mn ops i oper t := by
  unfold oneE
  rw [h.ev, h.1, h.2]
theorem app_un (s : St) (d : Option Nat) : s.app d unE = s.put d (.tup []) := rfl
theorem logOf_loc {i : Nat} {oper : Oper} {g : List Nat} {ev ev' : Operand → V} {o o' : Look} {e : Eff}
    (hev : ∀ x ∈ oper.op.operands.toList, ev' x = ev x) (hl : ∀ id ∈ looks oper ev o, o' id = o id) : logOf i oper g ev' o' e = logOf i oper g ev o e := by
  unfold logOf
  have h0 : (oper.op.operands.toList.flatMap fun x => idsV (ev' x)) = oper.op.operands.toList.flatMap fun x => idsV (ev x) := by
    rw [List.flatMap_def, List.flatMap_def]
    congr 1
    exact List.map_congr_left fun x hx => by rw [hev x hx]
  have h1 : cond (looksAt oper.op) (oper.op.operands.toList.flatMap fun x => idsV (ev' x)) [] = cond (looksAt oper.op) (oper.op.operands.toList.flatMap fun x => idsV (ev x)) [] := by rw [h0]
  have h2 : (cond (looksAt oper.op) (oper.op.operands.toList.flatMap fun x => idsV (ev x)) []).flatMap (fun id => idsO (o' id)) = (cond (looksAt oper.op) (oper.op.operands.toList.flatMap fun x => idsV (ev x)) []).flatMap fun id => idsO (o id) := by
    rw [List.flatMap_def, List.flatMap_def]
    congr 1
    refine List.map_congr_left fun id hid => ?_
    rw [hl id (by unfold looks; exact List.mem_append_left _ (List.mem_append_right _ hid))]
  have h3 : mvOf oper.op ev' = mvOf oper.op ev := by
    unfold mvOf
    split
    · rename_i x hx
      rw [hev x (by rw [hx]; simp [Op.operands])]
    · rfl
  simp only [h1, h2, h3]
theorem disj_spec {a b : List Nat} (h : disj a b = true) : ∀ x ∈ a, x ∉ b := by
  intro x hx hb
  have := List.all_eq_true.1 h x hx
  rw [List.contains_iff_mem.2 hb] at this
  cases this
/-- where it looked alike, it does alike -/
theorem oneE_loc {i : Nat} {oper : Oper} {s s' : St} {e : Eff} {l : Log} (h : oneE td C mn ops i oper s = some (e, l))
    (ht : ∀ k ∈ l.rt, getT s'.t k = getT s.t k) (ho : ∀ id, id ∈ l.ro ∨ id ∈ l.wo → getO s'.o id = getO s.o id) : oneE td C mn ops i oper s' = some (e, l) := by
  have key : ∀ g, (opEff td C mn oper s.ev (getO s.o) some).map (fun e => (e, logOf i oper g s.ev (getO s.o) e)) = some (e, l) →
      (opEff td C mn oper s'.ev (getO s'.o) some).map (fun e => (e, logOf i oper g s'.ev (getO s'.o) e)) = some (e, l) := by
    intro g hg
    cases he : opEff td C mn oper s.ev (getO s.o) some with
    | none => rw [he] at hg; cases hg
    | some e' =>
      rw [he] at hg
      cases hg
      have hev : ∀ x ∈ oper.op.operands.toList, s'.ev x = s.ev x := by
        intro x hx
        cases x with
        | tmp t => exact ht t (List.mem_append_left _ (List.mem_filterMap.2 ⟨.tmp t, hx, rfl⟩))
        | const v => rfl
        | global g => rfl
        | func f => rfl
      have hl : ∀ id ∈ looks oper s.ev (getO s.o), getO s'.o id = getO s.o id := fun id hid => ho id (.inl hid)
      have hk : ∀ p ∈ e.o, getO s'.o p.1 = getO s.o p.1 := fun p hp => ho p.1 (.inr (List.mem_map.2 ⟨p, hp, rfl⟩))
      rw [opEff_loc he hev hl hk]
      simp only [Option.map_some]
      rw [logOf_loc hev hl]
  unfold oneE at h ⊢
  split at h
  · exact key [] h
  · split at h
    · cases h
    · rename_i dg hdg
      split at h
      · rename_i b hb
        split at h
        · rename_i hw
          have hdgl : dg ∈ l.rt := by
            cases he : opEff td C mn oper s.ev (getO s.o) some with
            | none => rw [he] at h; cases h
            | some e' => rw [he] at h; cases h; exact List.mem_append_right _ (List.mem_singleton.2 rfl)
          rw [ht dg hdgl, hb]
          simp only [hw, if_true]
          exact key [dg] h
        · rename_i hw
          cases h
          rw [ht dg (List.mem_singleton.2 rfl), hb]
          simp only [hw, if_false]
      · rename_i hb
        cases h
        rw [ht dg (List.mem_singleton.2 rfl), hb]
      · cases h
/-- what the log says of what is done -/
theorem oneE_log {i : Nat} {oper : Oper} {s : St} {e : Eff} {l : Log} (h : oneE td C mn ops i oper s = some (e, l)) : l.i = i ∧ l.wt = oper.dst.toList ∧ l.wo = e.o.map (·.1) ∧ (l.all = false → e.frz = []) := by
  have key : ∀ g, (opEff td C mn oper s.ev (getO s.o) some).map (fun e => (e, logOf i oper g s.ev (getO s.o) e)) = some (e, l) → l.i = i ∧ l.wt = oper.dst.toList ∧ l.wo = e.o.map (·.1) ∧ (l.all = false → e.frz = []) := by
    intro g hg
    cases he : opEff td C mn oper s.ev (getO s.o) some with
    | none => rw [he] at hg; cases hg
    | some e' =>
      rw [he] at hg
      cases hg
      refine ⟨rfl, rfl, rfl, fun ha => ?_⟩
      simpa [logOf] using ha
  unfold oneE at h
  split at h
  · exact key [] h
  · split at h
    · cases h
    · split at h
      · split at h
        · exact key _ h
        · cases h; exact ⟨rfl, rfl, rfl, fun _ => rfl⟩
      · cases h; exact ⟨rfl, rfl, rfl, fun _ => rfl⟩
      · cases h
theorem getT_app {s : St} {d : Option Nat} {e : Eff} (hf : e.frz = []) (k : Nat) : getT (s.app d e).t k = if d = some k then e.v else getT s.t k := by
  unfold St.app
  rw [hf, getT_put]
  rfl
theorem getO_app {s : St} {d : Option Nat} {e : Eff} (hf : e.frz = []) (id : Nat) : getO (s.app d e).o id = match getO e.o id with
    | some v => some v
    | none => getO s.o id := by
  unfold St.app
  rw [hf]
  have : ∀ (s : St) (d : Option Nat) (v : V), (s.put d v).o = s.o := fun s d v => by cases d <;> rfl
  rw [this, getO_append]
  rfl
/-- two steps that keep apart -/
theorem comm1 {i j : Nat} {oi oj : Oper} {s : St} {ei ej : Eff} {li lj : Log} (hj : oneE td C mn ops j oj s = some (ej, lj)) (hi : oneE td C mn ops i oi (s.app oj.dst ej) = some (ei, li)) (ha : (!lj.all && !li.all && disj lj.wt (li.rt ++ li.wt) && disj lj.rt li.wt && disj lj.wo (li.ro ++ li.wo) && disj lj.ro li.wo) = true) :
    oneE td C mn ops i oi s = some (ei, li) ∧ oneE td C mn ops j oj (s.app oi.dst ei) = some (ej, lj) ∧ Eqv ((s.app oj.dst ej).app oi.dst ei) ((s.app oi.dst ei).app oj.dst ej) := by
  simp only [Bool.and_eq_true, Bool.not_eq_true'] at ha
  obtain ⟨⟨⟨⟨⟨a1, a2⟩, a3⟩, a4⟩, a5⟩, a6⟩ := ha
  obtain ⟨_, wj, oj', fj⟩ := oneE_log hj
  obtain ⟨_, wi, oi', fi⟩ := oneE_log hi
  have fj := fj a1
  have fi := fi a2
  have a3 := disj_spec a3
  have a4 := disj_spec a4
  have a5 := disj_spec a5
  have a6 := disj_spec a6
  have key : ∀ (e : Eff) (id : Nat), id ∉ e.o.map (·.1) → getO e.o id = none := fun e id h => getO_none_of h
  have hi' : oneE td C mn ops i oi s = some (ei, li) := by
    refine oneE_loc hi (fun k hk => ?_) fun id hid => ?_
    · rw [getT_app fj, if_neg]
      intro hd
      exact a3 k (by rw [wj, hd]; simp) (List.mem_append_left _ hk)
    · rw [getO_app fj, key ej id]
      rw [← oj']
      intro hc
      refine a5 id hc ?_
      rcases hid with h | h
      · exact List.mem_append_left _ h
      · exact List.mem_append_right _ h
  refine ⟨hi', ?_, ?_, ?_⟩
  · refine oneE_loc hj (fun k hk => ?_) fun id hid => ?_
    · rw [getT_app fi, if_neg]
      intro hd
      exact a4 k hk (by rw [wi, hd]; simp)
    · rw [getO_app fi, key ei id]
      rw [← oi']
      intro hc
      rcases hid with h | h
      · exact a6 id h hc
      · exact a5 id h (List.mem_append_right _ hc)
  · funext k
    rw [getT_app fi, getT_app fj, getT_app fj, getT_app fi]
    by_cases h1 : oi.dst = some k
    · rw [if_pos h1, if_pos h1, if_neg]
      intro h2
      exact a3 k (by rw [wj, h2]; simp) (List.mem_append_right _ (by rw [wi, h1]; simp))
    · rw [if_neg h1, if_neg h1]
  · funext id
    rw [getO_app fi, getO_app fj, getO_app fj, getO_app fi]
    cases h1 : getO ei.o id with
    | none => rfl
    | some v =>
      have h2 : getO ej.o id = none := key ej id fun hc => a5 id (by rw [oj']; exact hc) (List.mem_append_right _ (by rw [oi']; exact List.mem_map_of_mem (f := (·.1)) (mem_of_getO h1)))
      rw [h2]

theorem frzL_of {id : Nat} {t : Ty} {xs : List t.den} {x : L} (h : id ∉ idsL x) : frzL id t xs x = x := by
  cases x <;> try rfl
  · rename_i j w
    have : ¬ j = id := fun e => h (by simp [idsL, e])
    have hb : Nat.beq j id = false := by rw [← Bool.not_eq_true]; exact fun hc => this (Nat.eq_of_beq_eq_true hc)
    simp [frzL, hb]
  · rename_i j a f
    have : ¬ j = id := fun e => h (by simp [idsL, e])
    have hb : Nat.beq j id = false := by rw [← Bool.not_eq_true]; exact fun hc => this (Nat.eq_of_beq_eq_true hc)
    simp [frzL, hb]
theorem frzV_of {id : Nat} {t : Ty} {xs : List t.den} {v : V} (h : id ∉ idsV v) : frzV id t xs v = v := by
  cases v with
  | l x => simp only [frzV]; rw [frzL_of h]
  | agg ls =>
    simp only [frzV, V.agg.injEq]
    exact (List.map_congr_left fun x hx => frzL_of fun hc => h (List.mem_flatMap.2 ⟨x, hx, hc⟩)).trans (List.map_id _)
  | tup vs =>
    simp only [frzV, V.tup.injEq]
    refine (List.map_congr_left (g := _root_.id) fun p hp => ?_).trans (List.map_id _)
    have : p.2.map (frzL _ t xs) = p.2 := (List.map_congr_left fun x hx => frzL_of fun hc => h (List.mem_flatMap.2 ⟨p, hp, List.mem_flatMap.2 ⟨x, hx, hc⟩⟩)).trans (List.map_id _)
    rw [this]; rfl
theorem frz_get_of {s : St} {id k : Nat} (h : id ∉ idsV (getT s.t k)) : getT (s.frz id).t k = getT s.t k := by
  unfold St.frz
  split
  · rw [getT_frz, frzV_of h]
  · rfl
theorem frzIds_get_of {k : Nat} : ∀ (F : List Nat) {s : St}, (∀ id ∈ F, id ∉ idsV (getT s.t k)) → getT (frzIds s F).t k = getT s.t k
  | [], _, _ => rfl
  | id :: r, s, h => by
    have h1 := frz_get_of (h id List.mem_cons_self)
    show getT (frzIds (s.frz id) r).t k = _
    rw [frzIds_get_of r fun j hj => by rw [h1]; exact h j (List.mem_cons_of_mem _ hj), h1]
theorem frz_o_congr {s t : St} (h : getO s.o = getO t.o) (id : Nat) : getO (s.frz id).o = getO (t.frz id).o := by
  unfold St.frz
  rw [h]
  split
  · funext k
    rw [getO_cons, getO_cons, getO_frz, getO_frz, h]
  · exact h
theorem frz_t_congr {s t : St} (h : getO s.o = getO t.o) (id k : Nat) (hk : getT s.t k = getT t.t k) : getT (s.frz id).t k = getT (t.frz id).t k := by
  unfold St.frz
  rw [h]
  split
  · rw [getT_frz, getT_frz, hk]
  · exact hk
theorem frzIds_o_congr : ∀ (F : List Nat) {s t : St}, getO s.o = getO t.o → getO (frzIds s F).o = getO (frzIds t F).o
  | [], _, _, h => h
  | id :: r, _, _, h => frzIds_o_congr r (frz_o_congr h id)
theorem frzIds_t_congr (k : Nat) : ∀ (F : List Nat) {s t : St}, getO s.o = getO t.o → getT s.t k = getT t.t k → getT (frzIds s F).t k = getT (frzIds t F).t k
  | [], _, _, _, h => h
  | id :: r, _, _, h, hk => frzIds_t_congr k r (frz_o_congr h id) (frz_t_congr h id k hk)
theorem getT_appF (s : St) (d : Option Nat) (e : Eff) (k : Nat) : getT (s.app d e).t k = if d = some k then e.v else getT (frzIds s e.frz).t k := by
  unfold St.app
  rw [getT_put]
theorem getO_appF (s : St) (d : Option Nat) (e : Eff) (id : Nat) : getO (s.app d e).o id = match getO e.o id with
    | some v => some v
    | none => getO (frzIds s e.frz).o id := by
  unfold St.app
  have : ∀ (s : St) (d : Option Nat) (v : V), (s.put d v).o = s.o := fun s d v => by cases d <;> rfl
  rw [this, getO_append]
  try rfl
/-- a plain copy looks at its operand alone -/
theorem oneE_move {i : Nat} {oper : Oper} {s : St} {e : Eff} {l : Log} (h : oneE td C mn ops i oper s = some (e, l)) {ids : List Nat} (hm : l.mv = some ids) :
    e.o = [] ∧ e.frz = [] ∧ ids = idsV e.v ∧ l.wt = oper.dst.toList ∧ ∀ s' : St, (∀ k ∈ l.rt, getT s'.t k = getT s.t k ∨ (∀ k' ∈ l.rt, getT s'.t k' = getT s.t k')) → (∀ k ∈ l.rt, getT s'.t k = getT s.t k) → oneE td C mn ops i oper s' = some (e, l) := by
  have key : ∀ g, (opEff td C mn oper s.ev (getO s.o) some).map (fun e => (e, logOf i oper g s.ev (getO s.o) e)) = some (e, l) →
      ∃ x, oper.op = .move x ∧ e = ⟨s.ev x, [], []⟩ ∧ l = logOf i oper g s.ev (getO s.o) e := by
    intro g hg
    cases he : opEff td C mn oper s.ev (getO s.o) some with
    | none => rw [he] at hg; cases hg
    | some e' =>
      rw [he] at hg
      cases hg
      have hm' : mvOf oper.op s.ev = some ids := hm
      unfold mvOf at hm'
      split at hm'
      · rename_i x hx
        refine ⟨x, hx, ?_, rfl⟩
        unfold opEff at he
        rw [hx] at he
        simp only [Option.some.injEq] at he
        exact he.symm
      · cases hm'
  have fin : ∀ g x, oper.op = .move x → e = ⟨s.ev x, [], []⟩ → l = logOf i oper g s.ev (getO s.o) e → ∀ s' : St, s'.ev x = s.ev x →
      (opEff td C mn oper s'.ev (getO s'.o) some).map (fun e => (e, logOf i oper g s'.ev (getO s'.o) e)) = some (e, l) := by
    intro g x hx he hl s' hs
    have h1 : opEff td C mn oper s'.ev (getO s'.o) some = some e := by
      unfold opEff
      rw [hx]
      simp only [hs, he]
    rw [h1]
    simp only [Option.map_some, Option.some.injEq, Prod.mk.injEq, true_and]
    rw [hl]
    unfold logOf
    rw [hx]
    simp [looksAt, mvOf, hs]
  have evx : ∀ g x, oper.op = .move x → l = logOf i oper g s.ev (getO s.o) e → ∀ s' : St, (∀ k ∈ l.rt, getT s'.t k = getT s.t k) → s'.ev x = s.ev x := by
    intro g x hx hl s' hs
    cases x with
    | tmp t =>
      refine hs t ?_
      rw [hl]
      exact List.mem_append_left _ (List.mem_filterMap.2 ⟨.tmp t, by rw [hx]; simp [Op.operands], rfl⟩)
    | const v => rfl
    | global g => rfl
    | func f => rfl
  have idsE : ∀ g x, oper.op = .move x → e = ⟨s.ev x, [], []⟩ → l = logOf i oper g s.ev (getO s.o) e → ids = idsV e.v ∧ l.wt = oper.dst.toList := by
    intro g x hx he hl
    rw [hl] at hm
    have hm' : mvOf oper.op s.ev = some ids := hm
    rw [hx] at hm'
    simp only [mvOf, Option.some.injEq] at hm'
    rw [he]
    exact ⟨hm'.symm, by rw [hl]; rfl⟩
  unfold oneE at h
  split at h
  · rename_i hg
    obtain ⟨x, hx, he, hl⟩ := key [] h
    obtain ⟨h3, h4⟩ := idsE [] x hx he hl
    refine ⟨by rw [he], by rw [he], h3, h4, fun s' _ hs => ?_⟩
    unfold oneE
    rw [hg]
    exact fin [] x hx he hl s' (evx [] x hx hl s' hs)
  · rename_i j want hg
    split at h
    · cases h
    · rename_i dg hdg
      split at h
      · rename_i b hb
        split at h
        · rename_i hw
          obtain ⟨x, hx, he, hl⟩ := key [dg] h
          obtain ⟨h3, h4⟩ := idsE [dg] x hx he hl
          refine ⟨by rw [he], by rw [he], h3, h4, fun s' _ hs => ?_⟩
          unfold oneE
          have hdgl : dg ∈ l.rt := by rw [hl]; exact List.mem_append_right _ (List.mem_singleton.2 rfl)
          rw [hg]
          simp only [hdg]
          rw [hs dg hdgl, hb]
          simp only [hw, if_true]
          exact fin [dg] x hx he hl s' (evx [dg] x hx hl s' hs)
        · cases h; cases hm
      · cases h; cases hm
      · cases h
theorem oneE_fz {i : Nat} {oper : Oper} {s : St} {e : Eff} {l : Log} (h : oneE td C mn ops i oper s = some (e, l)) : l.fz = e.frz := by
  have key : ∀ g, (opEff td C mn oper s.ev (getO s.o) some).map (fun e => (e, logOf i oper g s.ev (getO s.o) e)) = some (e, l) → l.fz = e.frz := by
    intro g hg
    cases he : opEff td C mn oper s.ev (getO s.o) some with
    | none => rw [he] at hg; cases hg
    | some e' => rw [he] at hg; cases hg; rfl
  unfold oneE at h
  split at h
  · exact key [] h
  · split at h
    · cases h
    · split at h
      · split at h
        · exact key _ h
        · cases h; rfl
      · cases h; rfl
      · cases h
/-- a copy and whatever comes behind it -/
theorem comm2 {i j : Nat} {oi oj : Oper} {s : St} {ei ej : Eff} {li lj : Log} (hj : oneE td C mn ops j oj s = some (ej, lj)) (hi : oneE td C mn ops i oi (s.app oj.dst ej) = some (ei, li)) {ids : List Nat} (hm : lj.mv = some ids)
    (h1 : disj lj.wt (li.rt ++ li.wt) = true) (h2 : disj lj.rt li.wt = true) (h3 : disj li.fz ids = true) (hguard : ∀ k ∈ lj.rt, ∀ id ∈ li.fz, id ∉ idsV (getT s.t k)) :
    oneE td C mn ops i oi s = some (ei, li) ∧ oneE td C mn ops j oj (s.app oi.dst ei) = some (ej, lj) ∧ Eqv ((s.app oj.dst ej).app oi.dst ei) ((s.app oi.dst ei).app oj.dst ej) := by
  obtain ⟨eo, ef, eids, ewt, hrun⟩ := oneE_move hj hm
  obtain ⟨_, wi, _, _⟩ := oneE_log hi
  have hfz := oneE_fz hi
  have h1 := disj_spec h1
  have h2 := disj_spec h2
  have h3 := disj_spec h3
  have hO : getO (s.app oj.dst ej).o = getO s.o := by
    funext id
    rw [getO_app ef, eo]; rfl
  have hT : ∀ k, getT (s.app oj.dst ej).t k = if oj.dst = some k then ej.v else getT s.t k := fun k => getT_app ef k
  have hne : ∀ k, oj.dst = some k → oi.dst ≠ some k := by
    intro k hk hc
    exact h1 k (by rw [ewt, hk]; simp) (List.mem_append_right _ (by rw [wi, hc]; simp))
  refine ⟨?_, ?_, ?_, ?_⟩
  · refine oneE_loc hi (fun k hk => ?_) fun id _ => by rw [hO]
    rw [hT, if_neg]
    intro hd
    exact h1 k (by rw [ewt, hd]; simp) (List.mem_append_left _ hk)
  · have hsame : ∀ k ∈ lj.rt, getT (s.app oi.dst ei).t k = getT s.t k := by
      intro k hk
      rw [getT_appF, if_neg]
      · exact frzIds_get_of _ fun id hid => hguard k hk id (by rw [hfz]; exact hid)
      · intro hd
        exact h2 k hk (by rw [wi, hd]; simp)
    exact hrun _ (fun k hk => .inl (hsame k hk)) hsame
  · funext k
    rw [getT_appF, getT_app ef, getT_appF]
    by_cases hk : oj.dst = some k
    · rw [if_pos hk, if_neg (hne k hk), frzIds_get_of]
      · rw [hT, if_pos hk]
      · intro id hid
        rw [hT, if_pos hk]
        intro hc
        exact h3 id (by rw [hfz]; exact hid) (by rw [eids]; exact hc)
    · rw [if_neg hk]
      split
      · rfl
      · exact frzIds_t_congr k ei.frz hO (by rw [hT, if_neg hk])
  · funext id
    rw [getO_appF, getO_app ef, getO_appF, eo]
    show _ = (match getO ei.o id with | some v => some v | none => getO (frzIds s ei.frz).o id)
    rw [frzIds_o_congr ei.frz hO]
/-- what a copy reads: its operand, and a guard that mentions nothing -/
theorem oneE_mv_rt {i : Nat} {oper : Oper} {s : St} {e : Eff} {l : Log} (h : oneE td C mn ops i oper s = some (e, l)) {ids F : List Nat} (hm : l.mv = some ids) (hF : ∀ x ∈ F, x ∉ ids) : ∀ k ∈ l.rt, ∀ id ∈ F, id ∉ idsV (getT s.t k) := by
  have key : ∀ g, (opEff td C mn oper s.ev (getO s.o) some).map (fun e => (e, logOf i oper g s.ev (getO s.o) e)) = some (e, l) → (∀ k ∈ g, idsV (getT s.t k) = []) → ∀ k ∈ l.rt, ∀ id ∈ F, id ∉ idsV (getT s.t k) := by
    intro g hg hgd
    cases he : opEff td C mn oper s.ev (getO s.o) some with
    | none => rw [he] at hg; cases hg
    | some e' =>
      rw [he] at hg
      cases hg
      have hm' : mvOf oper.op s.ev = some ids := hm
      unfold mvOf at hm'
      split at hm'
      · rename_i x hx
        cases hm'
        intro k hk id hid
        rcases List.mem_append.1 hk with hk | hk
        · have hk : k ∈ tmpsOf oper.op.operands.toList := hk
          rw [hx] at hk
          have : x = .tmp k := by
            simp only [Op.operands, tmpsOf, List.mem_filterMap] at hk
            obtain ⟨y, hy, hy2⟩ := hk
            have : y = x := by simpa using hy
            subst this
            cases y <;> simp at hy2
            rw [hy2]
          have h4 := hF id hid
          rw [this] at h4
          exact h4
        · rw [hgd k hk]; simp
      · cases hm'
  unfold oneE at h
  split at h
  · exact key [] h (by simp)
  · split at h
    · cases h
    · rename_i dg hdg
      split at h
      · rename_i b hb
        split at h
        · exact key [dg] h (by simp [hb, idsV, idsL])
        · cases h; cases hm
      · cases h; cases hm
      · cases h
/-- two steps that keep apart -/
theorem comm {i j : Nat} {oi oj : Oper} {s : St} {ei ej : Eff} {li lj : Log} (hj : oneE td C mn ops j oj s = some (ej, lj)) (hi : oneE td C mn ops i oi (s.app oj.dst ej) = some (ei, li)) (ha : apart lj li = true) :
    oneE td C mn ops i oi s = some (ei, li) ∧ oneE td C mn ops j oj (s.app oi.dst ei) = some (ej, lj) ∧ Eqv ((s.app oj.dst ej).app oi.dst ei) ((s.app oi.dst ei).app oj.dst ej) := by
  unfold apart at ha
  rw [Bool.or_eq_true] at ha
  rcases ha with ha | ha
  · exact comm1 hj hi ha
  · split at ha
    · rename_i ids hm
      simp only [Bool.and_eq_true] at ha
      exact comm2 hj hi hm ha.1.1 ha.1.2 ha.2 (oneE_mv_rt hj hm (disj_spec ha.2))
    · cases ha

/-- steps, one after the other -/
inductive Runs (td : TypeId → TD) (C : Orc) (mn : List Nat) (ops : Array Oper) : List Nat → St → St → List Log → Prop
  | nil {s t : St} (h : Eqv s t) : Runs td C mn ops [] s t []
  | cons {i : Nat} {r : List Nat} {oper : Oper} {s t : St} {e : Eff} {l : Log} {ls : List Log} (ho : ops[i]? = some oper) (h1 : oneE td C mn ops i oper s = some (e, l)) (h2 : Runs td C mn ops r (s.app oper.dst e) t ls) : Runs td C mn ops (i :: r) s t (l :: ls)
theorem Runs.eqv {is : List Nat} {s s' t : St} {ls : List Log} (h : Runs td C mn ops is s t ls) (he : Eqv s' s) : Runs td C mn ops is s' t ls := by
  induction h generalizing s' with
  | nil h => exact .nil (he.trans h)
  | cons ho h1 h2 ih => exact .cons ho (by rw [oneE_eqv he]; exact h1) (ih (he.app _ _))
theorem Runs.front {i : Nat} {l : Log} : ∀ {L L' : List Nat} {s t : St} {ls ls' : List Log}, Runs td C mn ops (L ++ i :: L') s t (ls ++ l :: ls') → ls.length = L.length → (∀ a ∈ ls, apart a l = true) →
    Runs td C mn ops (i :: (L ++ L')) s t (l :: (ls ++ ls'))
  | [], L', s, t, ls, ls', h, hl, ha => by
    have : ls = [] := List.eq_nil_of_length_eq_zero hl
    subst this
    exact h
  | j :: L, L', s, t, [], ls', h, hl, ha => by simp at hl
  | j :: L, L', s, t, lj :: ls, ls', h, hl, ha => by
    cases h with
    | cons hoj h1 h2 =>
      rename_i oj ej
      have ih := Runs.front (L := L) h2 (by simpa using hl) fun a h => ha a (List.mem_cons_of_mem _ h)
      cases ih with
      | cons hoi h3 h4 =>
        rename_i oi ei
        obtain ⟨k1, k2, k3⟩ := comm h1 h3 (ha lj List.mem_cons_self)
        exact .cons hoi k1 (.cons hoj k2 (h4.eqv k3.symm))
theorem Runs.length {is : List Nat} {s t : St} {ls : List Log} (h : Runs td C mn ops is s t ls) : ls.length = is.length := by
  induction h with
  | nil => rfl
  | cons _ _ _ ih => simp [ih]
theorem Runs.idx {is : List Nat} {s t : St} {ls : List Log} (h : Runs td C mn ops is s t ls) : ls.map (·.i) = is := by
  induction h with
  | nil => rfl
  | cons _ h1 _ ih => rw [List.map_cons, ih, (oneE_log h1).1]
end
end Go.Pm

set_option linter.unusedVariables false
set_option linter.unusedSimpArgs false
namespace Go.Pm
open Go.RowKit

theorem or_bits {acc : Array Nat} {j : Nat} : ∀ (es : List Edge) (s : Nat), Nat.testBit (es.foldl (fun s e => if Region.binds .any e then s ||| 2 ^ e.on ||| acc.getD e.on 0 else s) s) j = true →
    Nat.testBit s j = true ∨ ∃ e ∈ es, Region.binds .any e = true ∧ (e.on = j ∨ Nat.testBit (acc.getD e.on 0) j = true)
  | [], s, h => .inl h
  | e :: r, s, h => by
    rw [List.foldl_cons] at h
    rcases or_bits r _ h with h1 | ⟨e', h1, h2⟩
    · cases hb : Region.binds .any e with
      | false => rw [hb] at h1; exact .inl h1
      | true =>
        rw [hb] at h1
        simp only [if_true, Nat.testBit_or, Bool.or_eq_true] at h1
        rcases h1 with (h1 | h1) | h1
        · exact .inl h1
        · rw [Nat.testBit_two_pow] at h1
          exact .inr ⟨e, List.mem_cons_self, hb, .inl (by simpa using h1)⟩
        · exact .inr ⟨e, List.mem_cons_self, hb, .inr h1⟩
    · exact .inr ⟨e', List.mem_cons_of_mem _ h1, h2⟩
theorem before_spec (ops : Array Oper) : ∀ i j, Nat.testBit ((Region.before ops).getD i 0) j = true → ∃ o, ops[i]? = some o ∧ ∃ e ∈ o.after.toList, Region.binds .any e = true ∧ (e.on = j ∨ Nat.testBit ((Region.before ops).getD e.on 0) j = true) := by
  have key : ∀ (l l' : List Oper) (acc : Array Nat), ops.toList = l ++ l' → acc.size = l.length →
      (∀ i j, Nat.testBit (acc.getD i 0) j = true → ∃ o, ops[i]? = some o ∧ ∃ e ∈ o.after.toList, Region.binds .any e = true ∧ (e.on = j ∨ Nat.testBit (acc.getD e.on 0) j = true)) →
      ∀ i j, Nat.testBit ((l'.foldl (fun acc o => acc.push (o.after.foldl (fun s e => if Region.binds .any e then s ||| 2 ^ e.on ||| acc.getD e.on 0 else s) 0)) acc).getD i 0) j = true →
        ∃ o, ops[i]? = some o ∧ ∃ e ∈ o.after.toList, Region.binds .any e = true ∧ (e.on = j ∨ Nat.testBit ((l'.foldl (fun acc o => acc.push (o.after.foldl (fun s e => if Region.binds .any e then s ||| 2 ^ e.on ||| acc.getD e.on 0 else s) 0)) acc).getD e.on 0) j = true) := by
    intro l l'
    induction l' generalizing l with
    | nil => intro acc _ _ h; exact h
    | cons o r ih =>
      intro acc he hs h
      rw [List.foldl_cons]
      refine ih (l ++ [o]) _ (by simp [he]) (by simp [hs]) ?_
      intro i j hij
      have hold : ∀ k, Nat.testBit (acc.getD k 0) j = true → k < acc.size := by
        intro k hk
        rcases Nat.lt_or_ge k acc.size with h1 | h1
        · exact h1
        · rw [Array.getD_eq_getD_getElem?, Array.getElem?_eq_none h1] at hk
          simp at hk
      have hpush : ∀ v k, k < acc.size → (acc.push v).getD k 0 = acc.getD k 0 := by
        intro v k hk
        rw [Array.getD_eq_getD_getElem?, Array.getD_eq_getD_getElem?, Array.getElem?_push_lt hk, Array.getElem?_eq_getElem hk]
      rcases Nat.lt_trichotomy i acc.size with h1 | h1 | h1
      · rw [hpush _ i h1] at hij
        obtain ⟨o', h2, e, h3, h4, h5⟩ := h i j hij
        refine ⟨o', h2, e, h3, h4, h5.imp id fun h6 => ?_⟩
        rw [hpush _ _ (hold _ h6)]; exact h6
      · subst h1
        have hget : (acc.push (o.after.foldl (fun s e => if Region.binds .any e then s ||| 2 ^ e.on ||| acc.getD e.on 0 else s) 0)).getD acc.size 0 = o.after.foldl (fun s e => if Region.binds .any e then s ||| 2 ^ e.on ||| acc.getD e.on 0 else s) 0 := by
          rw [Array.getD_eq_getD_getElem?, Array.getElem?_push_size]; rfl
        rw [hget, ← Array.foldl_toList] at hij
        rcases or_bits _ _ hij with h2 | ⟨e, h2, h3, h4⟩
        · simp at h2
        · refine ⟨o, ?_, e, h2, h3, h4.imp id fun h6 => ?_⟩
          · rw [← Array.getElem?_toList, he, hs]; simp
          · rw [hpush _ _ (hold _ h6)]; exact h6
      · rw [Array.getD_eq_getD_getElem?, Array.getElem?_eq_none (by simp; omega)] at hij
        simp at hij
  intro i j
  have := key [] ops.toList #[] rfl rfl (fun i j h => by simp at h) i j
  unfold Region.before
  rw [← Array.foldl_toList]
  exact this
theorem edgesOk_spec : ∀ (l : List Oper) (i : Nat), edgesOk i l = true → ∀ k o, l[k]? = some o → ∀ e ∈ o.after.toList, Region.binds .any e = true → e.on < i + k
  | [], _, _, k, o, h => by simp at h
  | o :: r, i, h, k, o', hk => by
    simp only [edgesOk, Bool.and_eq_true, List.all_eq_true, Bool.or_eq_true, Bool.not_eq_true'] at h
    intro e he hb
    match k, hk with
    | 0, hk =>
      cases hk
      rcases h.1 e he with h1 | h1
      · rw [hb] at h1; cases h1
      · have := Nat.blt_eq ▸ h1; simpa using this
    | k + 1, hk =>
      have := edgesOk_spec r (i + 1) h.2 k o' (by simpa using hk) e he hb
      omega

section
variable {td : TypeId → TD} {C : Orc} {mn : List Nat} {ops : Array Oper} {anc : Array Nat} {R : Type}
/-- each keeps apart from who was before it, or had to come after it -/
def AP (anc : Array Nat) : List Log → List Log → Prop
  | _, [] => True
  | lg, l :: ls => apartAll (anc.getD l.i 0) l lg = true ∧ AP anc (l :: lg) ls
theorem pmOps_runs (draw : Bool) : ∀ (r : List Oper) (i : Nat) (s : St) (lg : List Log) (K : St → List Log → Option R) (res : R), pmOps td C mn ops anc draw i r s lg K = some res → (∀ k o, r[k]? = some o → ops[i + k]? = some o) →
    ∃ t ls lg', Runs td C mn ops (List.range' i r.length) s t ls ∧ (draw = true → AP anc lg ls) ∧ K t lg' = some res
  | [], i, s, lg, K, res, h, ho => ⟨s, [], lg, .nil (Eqv.refl s), fun _ => trivial, h⟩
  | oper :: r, i, s, lg, K, res, h, ho => by
    have ho0 : ops[i]? = some oper := ho 0 oper rfl
    have hor : ∀ k o, r[k]? = some o → ops[i + 1 + k]? = some o := fun k o hk => by
      have := ho (k + 1) o (by simpa using hk)
      rw [show i + 1 + k = i + (k + 1) by omega]; exact this
    -- a step that is taken, from a state that looks alike
    have step : ∀ (s' : St) (e : Eff) (l : Log), Eqv s' s → oneE td C mn ops i oper s = some (e, l) → l.i = i →
        (match draw with
          | false => pmOps td C mn ops anc draw (i + 1) r (s'.app oper.dst e) lg K
          | true => cond (apartAll (anc.getD i 0) l lg) (pmOps td C mn ops anc draw (i + 1) r (s'.app oper.dst e) (l :: lg) K) none) = some res →
        ∃ t ls lg', Runs td C mn ops (List.range' i (oper :: r).length) s t ls ∧ (draw = true → AP anc lg ls) ∧ K t lg' = some res := by
      intro s' e l hs he hli hk
      cases draw with
      | false =>
        obtain ⟨t, ls, lg', h1, h2, h3⟩ := pmOps_runs false r (i + 1) _ _ _ _ hk hor
        exact ⟨t, l :: ls, lg', .cons ho0 he (h1.eqv (hs.symm.app _ _)), (fun hc => by cases hc), h3⟩
      | true =>
        obtain ⟨ha, hk⟩ := cond_some hk
        obtain ⟨t, ls, lg', h1, h2, h3⟩ := pmOps_runs true r (i + 1) _ _ _ _ hk hor
        exact ⟨t, l :: ls, lg', .cons ho0 he (h1.eqv (hs.symm.app _ _)), fun _ => ⟨by rw [hli]; exact ha, h2 rfl⟩, h3⟩
    have exec : ∀ (s' : St) (g : List Nat), Eqv s' s → (∀ e, opEff td C mn oper s.ev (getO s.o) some = some e → oneE td C mn ops i oper s = some (e, logOf i oper g s.ev (getO s.o) e)) →
        pmStep td C mn anc draw i oper g s' lg (fun s' lg' => pmOps td C mn ops anc draw (i + 1) r s' lg' K) = some res →
        ∃ t ls lg', Runs td C mn ops (List.range' i (oper :: r).length) s t ls ∧ (draw = true → AP anc lg ls) ∧ K t lg' = some res := by
      intro s' g hs hone hk
      unfold pmStep at hk
      obtain ⟨e, he, hk⟩ := opEff_some hk
      rw [hs.ev, hs.2] at he hk
      refine step s' e _ hs (hone e he) rfl ?_
      cases draw <;> exact hk
    have skip : ∀ (s' : St) (dg : Nat), Eqv s' s → oneE td C mn ops i oper s = some (unE, { i, rt := [dg], wt := oper.dst.toList, ro := [], wo := [], all := false }) →
        pmSkip anc draw i oper [dg] s' lg (fun s' lg' => pmOps td C mn ops anc draw (i + 1) r s' lg' K) = some res →
        ∃ t ls lg', Runs td C mn ops (List.range' i (oper :: r).length) s t ls ∧ (draw = true → AP anc lg ls) ∧ K t lg' = some res := by
      intro s' dg hs hone hk
      unfold pmSkip at hk
      refine step s' _ _ hs hone rfl ?_
      cases draw <;> exact hk
    unfold pmOps at h
    split at h
    · rename_i hg
      exact exec s [] (Eqv.refl s) (fun e he => by unfold oneE; rw [hg]; simp only [he]; rfl) h
    · rename_i j want hg
      split at h
      · cases h
      · rename_i dg hdg
        split at h
        · rename_i b hb
          have hsame : Eqv ⟨(dg, .l (.p (.bool b))) :: s.t, s.o⟩ s := Eqv.same hb
          have h1 : b = want → ∀ e, opEff td C mn oper s.ev (getO s.o) some = some e → oneE td C mn ops i oper s = some (e, logOf i oper [dg] s.ev (getO s.o) e) := by
            intro hw e he
            unfold oneE
            rw [hg]
            simp only [hdg, hb]
            rw [if_pos hw, he]
            rfl
          have h2 : b ≠ want → oneE td C mn ops i oper s = some (unE, { i, rt := [dg], wt := oper.dst.toList, ro := [], wo := [], all := false }) := by
            intro hw
            unfold oneE
            rw [hg]
            simp only [hdg, hb]
            rw [if_neg hw]
          cases b <;> cases want
          · exact exec _ [dg] hsame (h1 rfl) h
          · exact skip _ dg hsame (h2 (by decide)) h
          · exact skip _ dg hsame (h2 (by decide)) h
          · exact exec _ [dg] hsame (h1 rfl) h
        · rename_i hb
          refine skip s dg (Eqv.refl s) ?_ h
          unfold oneE
          rw [hg]
          simp only [hdg, hb]
        · cases h
end

section
variable {P : Program} {X : Nat → Prop} {w0 : World} {ρ0 : P0} {mn : List Nat} {nt : Nat} {s t : St} {ρ : Pl} {a : Act} {w : World} {td : TypeId → TD} {C : Orc} {ops : Array Oper} {Q : Exit → Act → World → Prop}
def dstsOk (nt : Nat) (ops : Array Oper) : Bool := ops.toList.all fun o => match o.dst with
  | some d => Nat.blt d nt
  | none => true
theorem dstsOk_spec (h : dstsOk nt ops = true) {i : Nat} {o : Oper} (ho : ops[i]? = some o) : ∀ d, o.dst = some d → d < nt := by
  intro d hd
  have := List.all_eq_true.1 h o (by rw [← Array.getElem?_toList] at ho; exact List.mem_of_getElem? ho)
  rw [hd] at this
  simpa [Nat.blt_eq] using this
theorem one_sound (htd : ∀ t, chkTD P t (td t) = true) (hC : OrcOk P C) (hd : dstsOk nt ops = true) (h : Inv X w0 ρ0 mn nt s ρ a w) {i : Nat} {oper : Oper} (ho : ops[i]? = some oper) {e : Eff} {l : Log}
    (h1 : oneE td C mn ops i oper s = some (e, l)) : wpOp P ops Q i (fun a' w' => ∃ ρ', Inv X w0 ρ0 mn nt (s.app oper.dst e) ρ' a' w') a w := by
  have hdd := dstsOk_spec hd ho
  have key : ∀ g, (opEff td C mn oper s.ev (getO s.o) some).map (fun e => (e, logOf i oper g s.ev (getO s.o) e)) = some (e, l) → Does P X w0 ρ0 mn nt s e oper a w := by
    intro g hg
    cases he : opEff td C mn oper s.ev (getO s.o) some with
    | none => rw [he] at hg; cases hg
    | some e' => rw [he] at hg; cases hg; exact op_sound htd hC h hdd he
  unfold wpOp
  rw [ho]
  simp only
  unfold oneE at h1
  split at h1
  · rename_i hg
    have : Region.wanted oper (yielded ops a.tmps) = true := by unfold Region.wanted; rw [hg]
    rw [if_pos this]
    exact .inl (key _ h1 Q)
  · rename_i j want hg
    split at h1
    · cases h1
    · rename_i dg hdg
      split at h1
      · rename_i b hb
        have hv := h.rel.tm dg
        rw [hb] at hv
        have hv := (VR_p hv).1
        have hy : yielded ops a.tmps j = some b := by
          unfold yielded
          rw [hdg]
          simp only [Option.bind_some]
          rw [Array.getD_eq_getD_getElem?] at hv
          cases hq : a.tmps[dg]? with
          | none => rw [hq] at hv; simp [undef] at hv
          | some u => rw [hq] at hv; simp at hv; rw [hv]
        split at h1
        · rename_i hw
          have : Region.wanted oper (yielded ops a.tmps) = true := by unfold Region.wanted; rw [hg]; simp [hy, hw]
          rw [if_pos this]
          exact .inl (key _ h1 Q)
        · rename_i hw
          have : ¬ Region.wanted oper (yielded ops a.tmps) = true := by unfold Region.wanted; rw [hg]; simp [hy, hw]
          rw [if_neg this]
          cases h1
          refine ⟨ρ, ?_⟩
          rw [app_un]
          exact h.put oper.dst hdd (u := undef) ⟨#[], rfl, rfl, fun j x c hj => by simp at hj⟩
      · rename_i hb
        have hv := h.rel.tm dg
        rw [hb] at hv
        obtain ⟨us, hv, _⟩ := hv
        have hy : yielded ops a.tmps j = none := by
          unfold yielded
          rw [hdg]
          simp only [Option.bind_some]
          rw [Array.getD_eq_getD_getElem?] at hv
          cases hq : a.tmps[dg]? with
          | none => rfl
          | some u => rw [hq] at hv; simp at hv; rw [hv]
        have : ¬ Region.wanted oper (yielded ops a.tmps) = true := by unfold Region.wanted; rw [hg]; simp [hy]
        rw [if_neg this]
        cases h1
        refine ⟨ρ, ?_⟩
        rw [app_un]
        exact h.put oper.dst hdd (u := undef) ⟨#[], rfl, rfl, fun j x c hj => by simp at hj⟩
      · cases h1
theorem runs_sound (htd : ∀ t, chkTD P t (td t) = true) (hC : OrcOk P C) (hd : dstsOk nt ops = true) : ∀ {is : List Nat} {s t : St} {ls : List Log} {ρ : Pl} {a : Act} {w : World}, Inv X w0 ρ0 mn nt s ρ a w → Runs td C mn ops is s t ls →
    (∀ ρ' a' w', Inv X w0 ρ0 mn nt t ρ' a' w' → Q .normal a' w') → wpOps P ops Q is a w
  | [], s, t, ls, ρ, a, w, h, hr, hq => by
    cases hr with
    | nil he => exact hq ρ a w (h.eqv he)
  | i :: r, s, t, ls, ρ, a, w, h, hr, hq => by
    cases hr with
    | cons ho h1 h2 =>
      rw [wpOps_cons]
      refine wpOp_mono ?_ (one_sound htd hC hd h ho h1)
      rintro a' w' ⟨ρ', h'⟩
      exact runs_sound htd hC hd h' h2 hq
/-- any order that the edges allow -/
theorem any_sound (htd : ∀ t, chkTD P t (td t) = true) (hC : OrcOk P C) (hd : dstsOk nt ops = true) (hedge : edgesOk 0 ops.toList = true) (hq : ∀ ρ' a' w', Inv X w0 ρ0 mn nt t ρ' a' w' → Q .normal a' w') :
    ∀ (fuel : Nat) (listed : Array Bool) (rest : List Nat) (ls : List Log) (s : St) (ρ : Pl) (a : Act) (w : World), rest.length ≤ fuel → listed.size = ops.size → rest.Nodup → (∀ i, i ∈ rest ↔ i < ops.size ∧ listed.getD i true = false) →
      (∀ k o, listed.getD k false = true → ops[k]? = some o → ∀ e ∈ o.after.toList, Region.binds .any e = true → listed.getD e.on false = true) →
      Runs td C mn ops rest s t ls → ls.Pairwise (fun a b => Nat.testBit ((Region.before ops).getD b.i 0) a.i = true ∨ apart a b = true) → Inv X w0 ρ0 mn nt s ρ a w → wpAny P .any ops Q fuel listed a w := by
  intro fuel
  have edge : ∀ i o, ops[i]? = some o → ∀ e ∈ o.after.toList, Region.binds .any e = true → e.on < i := by
    intro i o ho e he hb
    have := edgesOk_spec ops.toList 0 hedge i o (by rw [Array.getElem?_toList]; exact ho) e he hb
    omega
  have hnone : ∀ (listed : Array Bool) (rest : List Nat), listed.size = ops.size → (∀ i, i ∈ rest ↔ i < ops.size ∧ listed.getD i true = false) → Region.ready .any ops listed = [] → rest = [] := by
    intro listed rest hsz hmem hr
    cases hre : rest with
    | nil => rfl
    | cons x xs =>
      exfalso
      have hx : ∃ i, i ∈ rest ∧ ∀ k ∈ rest, i ≤ k := by
        have hne : ∃ n, n ∈ rest := ⟨x, by rw [hre]; exact List.mem_cons_self⟩
        have : ∀ n, n ∈ rest → ∃ i, i ∈ rest ∧ ∀ k ∈ rest, i ≤ k := by
          intro n
          induction n using Nat.strongRecOn with
          | _ n ih =>
            intro hn
            by_cases hall : ∀ k ∈ rest, n ≤ k
            · exact ⟨n, hn, hall⟩
            · simp only [Classical.not_forall] at hall
              obtain ⟨k, hk, hlt⟩ := hall
              exact ih k (by omega) hk
        obtain ⟨n, hn⟩ := hne
        exact this n hn
      obtain ⟨i, hi, hmin⟩ := hx
      obtain ⟨hlt, hli⟩ := (hmem i).1 hi
      have : i ∈ Region.ready .any ops listed := by
        rw [mem_ready]
        refine ⟨hli, ops[i], Array.getElem?_eq_getElem hlt, fun e he hb => ?_⟩
        have hon := edge i _ (Array.getElem?_eq_getElem hlt) e (by simpa using he) hb
        have hnot : e.on ∉ rest := fun hc => by have := hmin _ hc; omega
        rw [hmem] at hnot
        have hlt2 : e.on < ops.size := by omega
        cases hg : listed.getD e.on true with
        | false => exact absurd ⟨hlt2, hg⟩ hnot
        | true =>
          rw [Array.getD_eq_getD_getElem?, Array.getElem?_eq_getElem (by rw [hsz]; exact hlt2)] at hg ⊢
          exact hg
      rw [hr] at this
      cases this
  induction fuel with
  | zero =>
    intro listed rest ls s ρ a w hl hsz hnd hmem hcl hr hp h
    have : rest = [] := List.eq_nil_of_length_eq_zero (by omega)
    subst this
    cases hr with
    | nil he =>
      refine ⟨?_, hq ρ a w (h.eqv he)⟩
      cases hre : Region.ready .any ops listed with
      | nil => rfl
      | cons i r =>
        have : i ∈ Region.ready .any ops listed := by rw [hre]; exact List.mem_cons_self
        rw [mem_ready] at this
        obtain ⟨h1, o, h2, _⟩ := this
        have := (hmem i).2 ⟨(Array.getElem?_eq_some_iff.1 h2).1, h1⟩
        cases this
  | succ fuel ih =>
    intro listed rest ls s ρ a w hl hsz hnd hmem hcl hr hp h
    refine ⟨fun hre => ?_, fun i hi => ?_⟩
    · have := hnone listed rest hsz hmem hre
      subst this
      cases hr with
      | nil he => exact hq ρ a w (h.eqv he)
    · rw [mem_ready] at hi
      obtain ⟨hli, o, ho, hedges⟩ := hi
      have hlt := (Array.getElem?_eq_some_iff.1 ho).1
      have hir : i ∈ rest := (hmem i).2 ⟨hlt, hli⟩
      obtain ⟨L, L', rfl⟩ := List.append_of_mem hir
      have hlen := hr.length
      have hidx := hr.idx
      obtain ⟨lsL, lsR, rfl, hlsl⟩ : ∃ lsL lsR, ls = lsL ++ lsR ∧ lsL.length = L.length := ⟨ls.take L.length, ls.drop L.length, (List.take_append_drop _ _).symm, by rw [List.length_take]; simp at hlen; omega⟩
      cases lsR with
      | nil => simp at hlen; omega
      | cons l lsL' =>
        have hidx1 : lsL.map (·.i) = L ∧ l.i = i ∧ lsL'.map (·.i) = L' := by
          rw [List.map_append, List.map_cons] at hidx
          have := List.append_inj hidx (by simpa using hlsl)
          obtain ⟨h1, h2⟩ := this
          obtain ⟨h3, h4⟩ := List.cons.inj h2
          exact ⟨h1, h3, h4⟩
        -- those before it in the text need not come before it
        have anc : ∀ n k, Nat.testBit ((Region.before ops).getD n 0) k = true → listed.getD n false = true → listed.getD k false = true := by
          intro n
          induction n using Nat.strongRecOn with
          | _ n ihn =>
            intro k hk hn
            obtain ⟨o', h1, e, h2, h3, h4⟩ := before_spec ops n k hk
            have h5 := hcl n o' hn h1 e h2 h3
            rcases h4 with rfl | h4
            · exact h5
            · exact ihn e.on (edge n o' h1 e h2 h3) k h4 h5
        have hap : ∀ b ∈ lsL, apart b l = true := by
          intro b hb
          rw [List.pairwise_append] at hp
          rcases hp.2.2 b hb l List.mem_cons_self with h1 | h1
          · exfalso
            rw [hidx1.2.1] at h1
            obtain ⟨o', h2, e, h3, h4, h5⟩ := before_spec ops i b.i h1
            rw [ho] at h2
            cases h2
            have h6 := hedges e (by simpa using h3) h4
            have h7 : listed.getD b.i false = true := by
              rcases h5 with h5 | h5
              · rw [← h5]; exact h6
              · exact anc e.on b.i h5 h6
            have hbL : b.i ∈ L := by rw [← hidx1.1]; exact List.mem_map_of_mem (f := (·.i)) hb
            obtain ⟨h8, h9⟩ := (hmem b.i).1 (List.mem_append_left _ hbL)
            rw [Array.getD_eq_getD_getElem?, Array.getElem?_eq_getElem (by rw [hsz]; exact h8)] at h7 h9
            simp at h7 h9
            rw [h7] at h9; cases h9
          · exact h1
        have hf := hr.front hlsl hap
        cases hf with
        | cons ho' h1 h2 =>
          rw [ho] at ho'
          cases ho'
          refine wpOp_mono ?_ (one_sound htd hC hd h ho h1)
          rintro a' w' ⟨ρ', h'⟩
          have hnd' : (L ++ L').Nodup ∧ i ∉ L ++ L' := by
            rw [List.nodup_append, List.nodup_cons] at hnd
            obtain ⟨n1, ⟨n2, n3⟩, n4⟩ := hnd
            refine ⟨List.nodup_append.2 ⟨n1, n3, fun x hx y hy => n4 x hx y (List.mem_cons_of_mem _ hy)⟩, fun hc => ?_⟩
            rcases List.mem_append.1 hc with hc | hc
            · exact n4 i hc i List.mem_cons_self rfl
            · exact n2 hc
          refine ih (listed.setIfInBounds i true) (L ++ L') (lsL ++ lsL') _ ρ' a' w' ?_ ?_ hnd'.1 ?_ ?_ h2 ?_ h'
          · simp at hl ⊢; omega
          · simpa using hsz
          · intro k
            by_cases hk : k = i
            · subst hk
              refine ⟨fun hc => absurd hc hnd'.2, fun hc => ?_⟩
              have : (listed.setIfInBounds k true).getD k true = true := by
                rw [Array.getD_eq_getD_getElem?, Array.getElem?_setIfInBounds]
                simp [hsz, hlt]
              rw [this] at hc
              cases hc.2
            · rw [getD_set_ne true (fun e => hk e.symm)]
              rw [← hmem k]
              simp [hk]
          · intro k o' hk ho2 e he hb
            by_cases hki : k = i
            · subst hki
              rw [ho] at ho2
              cases ho2
              exact getD_set_true (hedges e (by simpa using he) hb)
            · rw [getD_set_ne false (fun e => hki e.symm)] at hk
              exact getD_set_true (hcl k o' hk ho2 e he hb)
          · rw [List.pairwise_append, List.pairwise_cons] at hp
            obtain ⟨p1, ⟨_, p2⟩, p3⟩ := hp
            exact List.pairwise_append.2 ⟨p1, p2, fun x hx y hy => p3 x hx y (List.mem_cons_of_mem _ hy)⟩
end
end Go.Pm

set_option linter.unusedVariables false
set_option linter.unusedSimpArgs false
namespace Go.Pm
open Go.RowKit

def exitOf : PE → Exit
  | .normal => .normal
  | .exit id => .exit id
  | .ret => .ret
def codeOk (nt : Nat) : Code → Bool
  | .region _ ops _ => dstsOk nt ops
  | .seq a b => codeOk nt a && codeOk nt b
  | .cond _ a b => codeOk nt a && codeOk nt b
  | .block _ c => codeOk nt c
  | .loop c => codeOk nt c
  | _ => true
theorem dstsOk_le {n m : Nat} (h : n ≤ m) {ops : Array Oper} (k : dstsOk n ops = true) : dstsOk m ops = true := by
  unfold dstsOk at k ⊢
  rw [List.all_eq_true] at k ⊢
  intro o ho
  have := k o ho
  split at this
  · rename_i d hd
    simp only [Nat.blt_eq] at this ⊢
    omega
  · rfl
theorem codeOk_le {n m : Nat} (h : n ≤ m) : ∀ {c : Code}, codeOk n c = true → codeOk m c = true := by
  intro c
  induction c with
  | region id ops dr => exact dstsOk_le h
  | seq a b iha ihb => intro k; simp only [codeOk, Bool.and_eq_true] at k ⊢; exact ⟨iha k.1, ihb k.2⟩
  | cond c a b iha ihb => intro k; simp only [codeOk, Bool.and_eq_true] at k ⊢; exact ⟨iha k.1, ihb k.2⟩
  | block id c ih => intro k; exact ih k
  | loop c ih => intro k; exact ih k
  | _ => intro k; rfl

theorem apartAll_spec {anc : Nat} {l : Log} : ∀ {lg : List Log}, apartAll anc l lg = true → ∀ a ∈ lg, Nat.testBit anc a.i = true ∨ apart a l = true
  | [], _, a, h => by simp at h
  | b :: r, h, a, ha => by
    simp only [apartAll, Bool.and_eq_true, Bool.or_eq_true] at h
    rcases List.mem_cons.1 ha with rfl | ha
    · exact h.1
    · exact apartAll_spec h.2 a ha
theorem AP_pairwise {anc : Array Nat} : ∀ {lg ls : List Log}, AP anc lg ls → (∀ l ∈ ls, ∀ a ∈ lg, Nat.testBit (anc.getD l.i 0) a.i = true ∨ apart a l = true) ∧
    ls.Pairwise (fun a b => Nat.testBit (anc.getD b.i 0) a.i = true ∨ apart a b = true)
  | lg, [], h => ⟨fun l hl => by simp at hl, .nil⟩
  | lg, l :: ls, h => by
    obtain ⟨h1, h2⟩ := AP_pairwise h.2
    have h3 := apartAll_spec h.1
    refine ⟨fun x hx a ha => ?_, List.pairwise_cons.2 ⟨fun x hx => h1 x hx l List.mem_cons_self, h2⟩⟩
    rcases List.mem_cons.1 hx with rfl | hx
    · exact h3 a ha
    · exact h1 x hx a (List.mem_cons_of_mem _ ha)

section
variable {P : Program} {X : Nat → Prop} {w0 : World} {ρ0 : P0} {mn : List Nat} {nt : Nat} {td : TypeId → TD} {C : Orc} {ann : List (Nat × List Item)}
/-- the invariant at an exit, and what comes next -/
abbrev Post (X : Nat → Prop) (w0 : World) (ρ0 : P0) (mn : List Nat) (nt : Nat) {R : Type} (K : PE → St → Option R) (r : R) (Q : Exit → Act → World → Prop) : Prop :=
  ∀ (pe : PE) (s' : St) (ρ' : Pl) (a' : Act) (w' : World), Inv X w0 ρ0 mn nt s' ρ' a' w' → K pe s' = some r → Q (exitOf pe) a' w'
theorem cut_sound {R : Type} {s : St} {ρ : Pl} {a : Act} {w : World} {is : List Item} {K : Den is → Option R} {r : R} (h : Inv X w0 ρ0 mn nt s ρ a w) (hc : cut mn is s K = some r) :
    ∃ x ρ', Inv X w0 ρ0 mn nt (enc id is x) ρ' a w ∧ K x = some r := by
  unfold cut at hc
  split at hc
  · rename_i m hn
    obtain ⟨hd, hc⟩ := cond_some hc
    split at hc
    · rename_i x hx
      obtain ⟨ρ', h'⟩ := h.cut hn hd hx
      exact ⟨x, ρ', h', hc⟩
    · cases hc
  · cases hc
theorem join_sound {c : Code} {a : Act} {w : World} (j : Option (List Item)) (run : {R : Type} → (PE → St → Option R) → Option R)
    (hrun : ∀ {R : Type} (K : PE → St → Option R) (r : R) (Q : Exit → Act → World → Prop), run K = some r → Post X w0 ρ0 mn nt K r Q → c.wp P Q a w)
    {R : Type} (K : PE → St → Option R) (r : R) (Q : Exit → Act → World → Prop) (h : joinK mn j K run = some r) (hQ : Post X w0 ρ0 mn nt K r Q) : c.wp P Q a w := by
  unfold joinK at h
  split at h
  · exact hrun K r Q h hQ
  · rename_i is
    obtain ⟨x, hr, h⟩ := Option.bind_eq_some_iff.1 h
    · refine hrun _ x Q hr fun pe s' ρ' a' w' hI hk => ?_
      cases pe with
      | normal =>
        obtain ⟨d, ρ1, hI', hd⟩ := cut_sound hI hk
        cases hd
        exact hQ .normal _ ρ1 a' w' hI' h
      | exit id =>
        simp only at hk
        cases hk2 : K (.exit id) s' with
        | none => rw [hk2] at hk; cases hk
        | some r' =>
          rw [hk2] at hk
          cases hk
          cases h
          exact hQ (.exit id) _ ρ' a' w' hI hk2
      | ret =>
        simp only at hk
        cases hk2 : K .ret s' with
        | none => rw [hk2] at hk; cases hk
        | some r' =>
          rw [hk2] at hk
          cases hk
          cases h
          exact hQ .ret _ ρ' a' w' hI hk2
theorem least {p : Nat → Prop} (h : ∃ n, p n) : ∃ n, p n ∧ ∀ m, p m → n ≤ m := by
  obtain ⟨n, hn⟩ := h
  induction n using Nat.strongRecOn with
  | _ n ih =>
    by_cases hall : ∀ m, p m → n ≤ m
    · exact ⟨n, hn, hall⟩
    · simp only [Classical.not_forall] at hall
      obtain ⟨k, hk, hlt⟩ := hall
      exact ih k (by omega) hk
open Classical in
theorem loop_iter {c : Code} {Q : Exit → Act → World → Prop} (J : Nat → Act → World → Prop) (hJ : ∀ n a w, J n a w → c.wp P (Exit.then (fun a' w' => ∃ m, m < n ∧ J m a' w') Q) a w) :
    ∀ n a w, J n a w → (Code.loop c).wp P Q a w := by
  intro n a w h
  refine wp_loop (fun a w => ∃ n, J n a w) (fun a w => if h : ∃ n, J n a w then (least h).choose else 0) ⟨n, h⟩ ?_
  intro a w hex
  obtain ⟨h1, h2⟩ := (least hex).choose_spec
  refine wp_mono (hJ _ a w h1) ?_
  intro e a' w' he
  cases e with
  | normal =>
    obtain ⟨m, hm, hJm⟩ := he
    refine ⟨⟨m, hJm⟩, ?_⟩
    have hex' : ∃ n, J n a' w' := ⟨m, hJm⟩
    rw [dif_pos hex, dif_pos hex']
    exact Nat.lt_of_le_of_lt ((least hex').choose_spec.2 m hJm) hm
  | _ => exact he

theorem pm_sound (hmix : P.follows .mixedOrders = true) (htd : ∀ t, chkTD P t (td t) = true) (hC : OrcOk P C) : ∀ (c : Code) (p : Nat) {R : Type} (s : St) (K : PE → St → Option R) (r : R) (ρ : Pl) (a : Act) (w : World) (Q : Exit → Act → World → Prop),
    codeOk nt c = true → pm td C mn ann c p s K = some r → Inv X w0 ρ0 mn nt s ρ a w → Post X w0 ρ0 mn nt K r Q → c.wp P Q a w := by
  intro c
  induction c with
  | skip => intro p R s K r ρ a w Q hok h hI hQ; exact wp_skip (hQ .normal s ρ a w hI h)
  | exit id => intro p R s K r ρ a w Q hok h hI hQ; exact wp_exit (hQ (.exit id) s ρ a w hI h)
  | ret => intro p R s K r ρ a w Q hok h hI hQ; exact wp_ret (hQ .ret s ρ a w hI h)
  | seq x y ihx ihy =>
    intro p R s K r ρ a w Q hok h hI hQ
    simp only [codeOk, Bool.and_eq_true] at hok
    unfold pm at h
    refine join_sound (annGet ann p) (fun {R} K => pm td C mn ann x (2 * p) s fun e s' => match e with
        | .normal => pm td C mn ann y (2 * p + 1) s' K
        | e => K e s') ?_ K r Q h hQ
    intro R K r Q h hQ
    refine wp_seq (ihx (2 * p) s _ r ρ a w _ hok.1 h hI ?_)
    intro pe s' ρ' a' w' hI' hk
    cases pe with
    | normal => exact ihy (2 * p + 1) s' K r ρ' a' w' Q hok.2 hk hI' hQ
    | exit id => exact hQ (.exit id) s' ρ' a' w' hI' hk
    | ret => exact hQ .ret s' ρ' a' w' hI' hk
  | cond c x y ihx ihy =>
    intro p R s K r ρ a w Q hok h hI hQ
    simp only [codeOk, Bool.and_eq_true] at hok
    unfold pm at h
    refine join_sound (annGet ann p) (fun {R} K => match s.ev c with
      | .l (.p (.bool t)) => _root_.cond t (pm td C mn ann x (2 * p) s K) (pm td C mn ann y (2 * p + 1) s K)
      | _ => none) ?_ K r Q h hQ
    intro R K r Q h hQ
    split at h
    · rename_i t ht
      have hv := hI.ev c
      rw [ht] at hv
      have hv := (VR_p hv).1
      cases t with
      | true => exact wp_cond_true hv (ihx (2 * p) s K r ρ a w Q hok.1 h hI hQ)
      | false => exact wp_cond_false hv (ihy (2 * p + 1) s K r ρ a w Q hok.2 h hI hQ)
    · cases h
  | block id c ih =>
    intro p R s K r ρ a w Q hok h hI hQ
    unfold pm at h
    refine join_sound (annGet ann p) (fun {R} K => pm td C mn ann c (2 * p) s fun e s' => match e with
      | .exit i => _root_.cond (Nat.beq i id) (K .normal s') (K (.exit i) s')
      | e => K e s') ?_ K r Q h hQ
    intro R K r Q h hQ
    refine wp_block (ih (2 * p) s _ r ρ a w _ hok h hI ?_)
    intro pe s' ρ' a' w' hI' hk
    cases pe with
    | normal => exact hQ .normal s' ρ' a' w' hI' hk
    | exit i =>
      simp only at hk
      simp only [exitOf, Exit.inBlock]
      cases hb : Nat.beq i id with
      | true =>
        rw [hb] at hk
        rw [if_pos (Nat.eq_of_beq_eq_true hb)]
        exact hQ .normal s' ρ' a' w' hI' hk
      | false =>
        rw [hb] at hk
        have : i ≠ id := fun e => by rw [e] at hb; simp at hb
        rw [if_neg this]
        exact hQ (.exit i) s' ρ' a' w' hI' hk
    | ret => exact hQ .ret s' ρ' a' w' hI' hk
  | loop c ih =>
    intro p R s K r ρ a w Q hok h hI hQ
    unfold pm at h
    split at h
    · cases h
    · rename_i is _
      obtain ⟨x0, ρ1, hI1, h1⟩ := cut_sound hI h
      obtain ⟨n, hn⟩ := iter_of_loopM _ _ _ h1
      refine loop_iter (fun n a w => ∃ x ρ, Inv X w0 ρ0 mn nt (enc _root_.id is x) ρ a w ∧ iterM (fun x => pm td C mn ann c (2 * p) (enc _root_.id is x) fun e s' => match e with
          | .normal => cut mn is s' fun x => some (.inl x)
          | e => (K e s').map .inr) n x = some r) ?_ n a w ⟨x0, ρ1, hI1, hn⟩
      rintro n a w ⟨x, ρ2, hI2, hit⟩
      cases n with
      | zero => simp [iterM] at hit
      | succ n =>
        rw [iterM] at hit
        obtain ⟨z, hf, hit⟩ := Option.bind_eq_some_iff.1 hit
        · refine ih (2 * p) _ _ z ρ2 a w _ hok hf hI2 ?_
          intro pe s' ρ' a' w' hI' hk
          cases pe with
          | normal =>
            obtain ⟨d, ρ3, hI3, hd⟩ := cut_sound hI' hk
            cases hd
            exact ⟨n, Nat.lt_succ_self n, d, ρ3, hI3, hit⟩
          | exit i =>
            simp only at hk
            cases hk2 : K (.exit i) s' with
            | none => rw [hk2] at hk; cases hk
            | some r' =>
              rw [hk2] at hk
              cases hk
              cases hit
              exact hQ (.exit i) _ ρ' a' w' hI' hk2
          | ret =>
            simp only at hk
            cases hk2 : K .ret s' with
            | none => rw [hk2] at hk; cases hk
            | some r' =>
              rw [hk2] at hk
              cases hk
              cases hit
              exact hQ .ret _ ρ' a' w' hI' hk2
  | region id ops draw =>
    intro p R s K r ρ a w Q hok h hI hQ
    unfold pm at h
    obtain ⟨hed, h⟩ := cond_some h
    refine join_sound (annGet ann p) (fun {R} K => pmOps td C mn ops (_root_.cond draw (Region.before ops) #[]) draw 0 ops.toList s [] fun s' _ => K .normal s') ?_ K r Q h hQ
    intro R K r Q h hQ
    obtain ⟨t, ls, lg', hr, hap, hk⟩ := pmOps_runs draw _ _ _ _ _ _ h (fun k o hk => by rw [Nat.zero_add, ← Array.getElem?_toList]; exact hk)
    have hq : ∀ ρ' a' w', Inv X w0 ρ0 mn nt t ρ' a' w' → Q .normal a' w' := fun ρ' a' w' hI' => hQ .normal t ρ' a' w' hI' hk
    rw [Array.length_toList] at hr
    cases draw with
    | false =>
      refine wp_region ?_
      rw [List.range_eq_range']
      exact runs_sound htd hC hok hI hr hq
    | true =>
      simp only [Bool.not_true, Bool.false_or] at hed
      refine wp_region_any hmix ?_
      refine any_sound htd hC hok hed hq ops.size _ (List.range' 0 ops.size) ls s ρ a _ (by simp) (by simp) (List.nodup_range' ..) ?_ ?_ hr (AP_pairwise (hap rfl)).2 (hI.drew rfl rfl rfl rfl)
      · intro i
        rw [List.mem_range'_1]
        constructor
        · rintro ⟨_, h2⟩
          have h2 : i < ops.size := by omega
          refine ⟨h2, ?_⟩
          rw [Array.getD_eq_getD_getElem?, Array.getElem?_eq_getElem (by simpa using h2)]
          simp
        · rintro ⟨h2, _⟩; exact ⟨Nat.zero_le _, by omega⟩
      · intro k o hk
        rw [Array.getD_eq_getD_getElem?, Array.getElem?_replicate] at hk
        split at hk <;> simp at hk
  | _ => intro p R s K r ρ a w Q hok h hI hQ; unfold pm at h; cases h
end
end Go.Pm

set_option linter.unusedVariables false
set_option linter.unusedSimpArgs false
namespace Go.Pm
open Go.RowKit

section
variable {P : Program} {X : Nat → Prop} {w0 : World} {ρ0 : P0} {mn : List Nat} {nt : Nat} {s : St} {ρ : Pl} {a : Act} {w : World}
theorem run_cell (h : Inv X w0 ρ0 mn nt s ρ a w) {t : TypeId} {td : TD} (htd : chkTD P t td = true) {v : V} {u : Value} {e : Eff}
    (he : pmLoad td (getO s.o) v some = some e) (hv : VR (getO s.o) ρ w (BO X (getO s.o) ρ) v u) :
    ∃ u', VR (getO s.o) ρ w (BO X (getO s.o) ρ) e.v u' ∧ (do loadVar t (← asAddr u) : Sem Value).run P w = .ok u' w := by
  unfold pmLoad at he
  split at he
  · rename_i id i f
    split at he
    · rename_i x hid
      simp only [VR, LR, hid] at hv
      obtain ⟨g, k, c, _, rfl, hc⟩ := ptr_cells h hid hv
      obtain ⟨v', u', rfl, h2, h3⟩ := run_pick (P := P) htd he hc
      exact ⟨u', h2, by simpa [asAddr] using h3⟩
    · cases he
  · rename_i t' x f
    obtain ⟨b, k, rfl, hb, hB, hE⟩ := hv
    obtain ⟨v', u', rfl, h2, h3⟩ := run_pick (P := P) htd he (hE.cells (o := getO s.o) (ρ := ρ))
    exact ⟨u', h2, by simpa [asAddr] using h3⟩
  · cases he
theorem res_sound {td : TypeId → TD} (htd : ∀ t, chkTD P t (td t) = true) (h : Inv X w0 ρ0 mn nt s ρ a w) : ∀ (rs : List ResultVar) (k : Nat) (l : List (Nat × V)), resVals td s k rs = some l →
    ∃ us : List Value, us.length = rs.length ∧ (rs.mapM (m := Sem) fun
      | .tmp t => pure (a.tmps.getD t undef)
      | .cell b t => do loadVar t (← asAddr (a.tmps.getD b undef))).run P w = .ok us w ∧
      ∀ j, VR (getO s.o) ρ w (BO X (getO s.o) ρ) (getT l j) (if rslot + k ≤ j then (us[j - (rslot + k)]?).getD undef else undef)
  | [], k, l, hl => by
    simp only [resVals] at hl
    cases hl
    exact ⟨[], rfl, rfl, fun j => trivial⟩
  | .tmp t :: r, k, l, hl => by
    simp only [resVals] at hl
    split at hl
    · rename_i l' hl'
      cases hl
      obtain ⟨us, h1, h2, h3⟩ := res_sound htd h r (k + 1) l' hl'
      refine ⟨a.tmps.getD t undef :: us, by simp [h1], ?_, fun j => ?_⟩
      · rw [List.mapM_cons]
        simp only [Sem.run_bind, Sem.run_pure, Result.andThen_ok, h2]
      · rw [getT_cons]
        split
        · rename_i e
          subst e
          have := h.rel.tm t
          rw [Array.getD_eq_getD_getElem?] at this
          simpa using this
        · rename_i hne
          have := h3 j
          by_cases hj : rslot + k ≤ j
          · rw [if_pos (by omega)] at this
            rw [if_pos hj]
            have e : j - (rslot + k) = (j - (rslot + (k + 1))) + 1 := by omega
            rw [e, List.getElem?_cons_succ]
            exact this
          · rw [if_neg (by omega)] at this
            rw [if_neg hj]
            exact this
    · cases hl
  | .cell b t :: r, k, l, hl => by
    simp only [resVals] at hl
    split at hl
    · rename_i e l' he hl'
      cases hl
      obtain ⟨us, h1, h2, h3⟩ := res_sound htd h r (k + 1) l' hl'
      obtain ⟨u', h4, h5⟩ := run_cell h (htd t) he (h.rel.tm b)
      refine ⟨u' :: us, by simp [h1], ?_, fun j => ?_⟩
      · rw [List.mapM_cons]
        rw [Sem.run_bind, h5]
        simp only [Sem.run_bind, Sem.run_pure, Result.andThen_ok, h2]
      · rw [getT_cons]
        split
        · rename_i e'
          subst e'
          simp
          exact h4
        · rename_i hne
          have := h3 j
          by_cases hj : rslot + k ≤ j
          · rw [if_pos (by omega)] at this
            rw [if_pos hj]
            have e : j - (rslot + k) = (j - (rslot + (k + 1))) + 1 := by omega
            rw [e, List.getElem?_cons_succ]
            exact this
          · rw [if_neg (by omega)] at this
            rw [if_neg hj]
            exact this
    · cases hl
/-- the contract of a function whose body is run -/
theorem fn_sound {td : TypeId → TD} {C : Orc} (hmix : P.follows .mixedOrders = true) (htd : ∀ t, chkTD P t (td t) = true) (hC : OrcOk P C) {f : FuncId} {fn : Func} {c : Code} {F : Fun} (ann : List (Nat × List Item))
    (hf : P.funcs[f]? = some fn) (hname : (fn.name == "runtime.NumGoroutine") = false) (hb : fn.body = some c) (hok : codeOk fn.ntmps c = true) (hres : resN F.outs = fn.results.size)
    (hrun : ∀ x y, F.run x = some y → pmFn td C F.mn ann fn F.ins F.outs x = some y) : CallsD P f F := by
  refine ⟨⟨fn, hf, hname, by rw [hb]; rfl⟩, fun x y hy X args ρ w hrel hX => ?_⟩
  have hy := hrun x y hy
  unfold pmFn at hy
  rw [hb] at hy
  simp only at hy
  refine calls_of_wp hf hb ?_
  have hsz : fn.ntmps ≤ (args ++ Array.replicate (fn.ntmps - args.size) undef).size := by simp; omega
  have hI : Inv X w ⟨ρ, getO (enc id F.ins x).o⟩ F.mn (args ++ Array.replicate (fn.ntmps - args.size) undef).size (enc id F.ins x) ρ { tmps := args ++ Array.replicate (fn.ntmps - args.size) undef, defers := [] } w := by
    refine ⟨⟨rfl, rfl, fun k => ?_, hrel.ob, hrel.inj⟩, Fr.refl w _, fun i z g c' h1 h2 => .inr ⟨i, z, c', h1, h2⟩, fun n hn z hz => ⟨rfl, z, hz, sameShape.refl z⟩, hX⟩
    have := hrel.tm k
    have e : (args ++ Array.replicate (fn.ntmps - args.size) undef).getD k undef = args.getD k undef := by
      rw [Array.getD_eq_getD_getElem?, Array.getD_eq_getD_getElem?]
      by_cases hk : k < args.size
      · rw [Array.getElem?_append_left hk]
      · rw [Array.getElem?_append_right (by omega), Array.getElem?_eq_none (by omega : args.size ≤ k), Array.getElem?_replicate]
        split <;> rfl
    show VR _ _ _ _ _ ((args ++ Array.replicate (fn.ntmps - args.size) undef).getD k undef)
    rw [e]
    exact this
  refine pm_sound hmix htd hC c 1 _ _ y ρ _ w _ (codeOk_le hsz hok) hy hI ?_
  intro pe s' ρ' a' w' hI' hk
  have key : (match resVals td s' 0 fn.results.toList with
      | none => none
      | some l => match names F.mn (getT l) (getO s'.o) F.outs (F.mn.map fun n => (n, n)) with
        | some m => cond (declOk F.outs m) (vals (getT l) (getO s'.o) m F.outs) none
        | none => none) = some y → a'.defers = [] ∧ ∃ v, (results fn a'.tmps).run P w' = .ok v w' ∧ ∃ v' ρ'', Ending.returned v = .returned v' ∧ COut F x y X ρ w v' ρ'' w' := by
    intro hk
    refine ⟨hI'.rel.dn, ?_⟩
    split at hk
    · cases hk
    rename_i l hl
    split at hk
    case h_2 => cases hk
    rename_i m hn
    obtain ⟨hd, hv⟩ := cond_some hk
    obtain ⟨us, hul, hur, htv⟩ := res_sound htd hI' _ 0 l hl
    obtain ⟨st, hit⟩ := names_ok hn
    obtain ⟨v1, v2, v3⟩ := vals_ok hv hit
    have dc : Dec (getO s'.o) F.mn m (enc id F.outs y).o := declOk_dec (st.inj (inj_diag _)) (st.mnok (mnok_diag _ _)) (st.keyok (keyok_diag _)) hd v1 v2
    have hrv := hI'.relV
    have r := dec_rel (X' := X) (Tch := fun _ => True) (T := fun j => if rslot + 0 ≤ j then (us[j - (rslot + 0)]?).getD undef else undef) (tv := getT l) (tv' := getT (enc id F.outs y).t)
      ⟨htv, hrv.ob, hrv.inj, hrv.xo⟩ dc (fun g hg => .inl hg) (fun i z g c ho hp _ => hrv.xo i z g c ho hp) (fun _ _ _ _ => trivial) (fun _ _ _ => trivial) (fun _ _ _ _ _ _ _ _ _ _ _ => trivial) v3
    have hus : us.length = fn.results.size := by rw [hul, Array.length_toList]
    have hrt : ∀ k, k < us.length → VR (getO (enc id F.outs y).o) (plOf m ρ') w' (BO X (getO (enc id F.outs y).o) (plOf m ρ')) (getT (enc id F.outs y).t (rslot + k)) ((us[k]?).getD undef) := by
      intro k hk
      have := r.tm (rslot + k)
      rw [if_pos (by omega), show rslot + k - (rslot + 0) = k by omega] at this
      exact this
    refine ⟨if h : us.toArray.size = 1 then us.toArray[0] else .tuple us.toArray, ?_, _, plOf m ρ', rfl, ?_⟩
    · unfold results
      rw [Sem.run_bind, Array.mapM_eq_mapM_toList]
      simp only [map_eq_pure_bind, Sem.run_bind]
      refine Eq.trans (congrArg (fun z => Result.andThen (Result.andThen z (fun a w' => Sem.run P (pure a.toArray) w')) fun (a : Array Value) w' => Sem.run P (pure (if h : a.size = 1 then a[0] else Value.tuple a)) w') hur) ?_
      simp only [Result.andThen_ok, Sem.run_pure]
    · refine ⟨?_, r.ob, r.inj, hI'.fr, fun n z g c hz hp => ?_, fun n hn z hz => ?_⟩
      · rw [hres, ← hus]
        by_cases h1 : us.length = 1
        · have e : (if h : us.toArray.size = 1 then us.toArray[0] else Value.tuple us.toArray) = (us[0]?).getD undef := by
            rw [dif_pos (by simpa using h1)]
            rw [List.getElem?_eq_getElem (by omega)]
            simp
          rw [e, h1]
          exact hrt 0 (by omega)
        · have e : (if h : us.toArray.size = 1 then us.toArray[0] else Value.tuple us.toArray) = Value.tuple us.toArray := dif_neg (by simpa using h1)
          rw [e]
          unfold resV
          split
          · exact absurd ‹_› h1
          · refine ⟨us.toArray, rfl, by simp, fun j p c hj hc => ?_⟩
            rw [List.getElem?_map] at hj
            cases hr : (List.range us.length)[j]? with
            | none => rw [hr] at hj; cases hj
            | some k =>
              rw [hr] at hj
              cases hj
              have hkj : k = j ∧ j < us.length := by
                rw [List.getElem?_range] at hr
                · cases hr
                  exact ⟨rfl, by simpa using (Array.getElem?_eq_some_iff.1 hc).1⟩
                · simpa using (Array.getElem?_eq_some_iff.1 hc).1
              obtain ⟨rfl, hlt⟩ := hkj
              have h2 := hrt k hlt
              have e2 : (us[k]?).getD undef = c := by
                have : us.toArray[k]? = us[k]? := by simp
                rw [this] at hc
                rw [hc]; rfl
              rw [e2] at h2
              show TuR _ _ _ _ (match getT (enc id F.outs y).t (rslot + k) with
                | .l x => (false, [x])
                | .agg xs => (true, xs)
                | .tup _ => (false, [])) c
              cases hg : getT (enc id F.outs y).t (rslot + k) with
              | l q => rw [hg] at h2; exact h2
              | agg qs => rw [hg] at h2; exact h2
              | tup qs => trivial
      · obtain ⟨i, z', h1, _, h2, h3⟩ := dc.src hz hp
        exact hI'.own i z' g c h2 h3
      · obtain ⟨z', h1, h2, h3⟩ := dc.same hz hn ρ'
        obtain ⟨h4, q, h5, h6⟩ := hI'.mt n hn z' h1
        exact ⟨h3.trans h4, q, h5, h6.trans h2⟩
  cases pe with
  | normal => exact key hk
  | exit i => cases hk
  | ret => exact key hk
end
end Go.Pm

set_option linter.unusedVariables false
namespace Go.Pm

abbrev w64 (x : Int) : Int := IntKind.i64.wrap x
abbrev ishl (k : IntKind) (x y : Int) : Int := k.wrap (x * 2 ^ (min y.toNat k.bits))
abbrev ishr (k : IntKind) (x y : Int) : Int := x.fdiv (2 ^ (min y.toNat k.bits))
abbrev iand (k : IntKind) (a b : Int) : Int := k.wrap (BitVec.ofInt k.bits a &&& BitVec.ofInt k.bits b).toNat
abbrev ior (k : IntKind) (a b : Int) : Int := k.wrap (BitVec.ofInt k.bits a ||| BitVec.ofInt k.bits b).toNat
abbrev ixor (k : IntKind) (a b : Int) : Int := k.wrap (BitVec.ofInt k.bits a ^^^ BitVec.ofInt k.bits b).toNat
abbrev iandNot (k : IntKind) (a b : Int) : Int := k.wrap (BitVec.ofInt k.bits a &&& ~~~ BitVec.ofInt k.bits b).toNat
/-- what joins: its ways on go to k, its other ways leave -/
def joinB {T R : Type} (a : Option (T ⊕ R)) (k : T → Option R) : Option R := a.bind fun
  | .inl x => k x
  | .inr r => some r
def orcGet : List (Nat × Fun) → Orc
  | [], _ => none
  | (k, v) :: r, n => cond (Nat.beq k n) (some v) (orcGet r n)
theorem orc_ok {P : Program} : ∀ {l : List (Nat × Fun)}, (∀ p ∈ l, CallsD P p.1 p.2) → OrcOk P (orcGet l)
  | [], _, g, F, h => by simp [orcGet] at h
  | (k, v) :: r, hl, g, F, h => by
    simp only [orcGet] at h
    cases hb : Nat.beq k g with
    | true =>
      rw [hb] at h
      cases h
      have := Nat.eq_of_beq_eq_true hb
      subst this
      exact hl _ List.mem_cons_self
    | false => rw [hb] at h; exact orc_ok (fun p hp => hl p (List.mem_cons_of_mem _ hp)) g F h
theorem fn_contract {P : Program} {td : TypeId → TD} {C : Orc} (hmix : P.follows .mixedOrders = true) (htd : ∀ t, chkTD P t (td t) = true) (hC : OrcOk P C) {f : FuncId} {fn : Func} {F : Fun} (ann : List (Nat × List Item))
    (hf : P.funcs[f]? = some fn) (hname : (fn.name == "runtime.NumGoroutine") = false) (hb : fn.body.isSome = true) (hok : codeOk fn.ntmps (fn.body.getD .skip) = true) (hres : resN F.outs = fn.results.size)
    (hrun : ∀ x y, F.run x = some y → pmFn td C F.mn ann fn F.ins F.outs x = some y) : CallsD P f F := by
  cases hc : fn.body with
  | none => rw [hc] at hb; cases hb
  | some c =>
    rw [hc] at hok
    exact fn_sound hmix htd hC ann hf hname hc hok hres hrun
theorem orc_nil {P : Program} : OrcOk P (orcGet []) := fun g F h => by simp [orcGet] at h
theorem orc_cons {P : Program} {k : Nat} {F : Fun} {r : List (Nat × Fun)} (h : CallsD P k F) (hr : OrcOk P (orcGet r)) : OrcOk P (orcGet ((k, F) :: r)) := by
  intro g G hg
  simp only [orcGet] at hg
  cases hb : Nat.beq k g with
  | true =>
    rw [hb] at hg
    cases hg
    rw [← Nat.eq_of_beq_eq_true hb]
    exact h
  | false => rw [hb] at hg; exact hr g G hg
end Go.Pm
