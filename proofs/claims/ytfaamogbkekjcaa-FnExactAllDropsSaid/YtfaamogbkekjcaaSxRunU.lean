/- The symbolic executor is sound, third part: regions in the order of the text. No condition. -/
import Derived.Test.YtfaamogbkekjcaaSxRunT
import Derived.Orders
set_option linter.unusedVariables false
set_option linter.unusedSimpArgs false
noncomputable section
namespace Go.Sx
open Go Go.RowKit

section
variable {P : Program} {E : Env} {β : Pl} {w0 w : World} {H : Hnd} {σ σ' : St} {a : Act}

theorem stepO_wp (hH : HndOk P E H) (hN : Named P) {o : Oper} (h : RepS E β w0 σ a w) (hs : (stepO H P σ o).sel E = some σ') (K : Act → World → Prop) (Q : Exit → Act → World → Prop)
    (hK : ∀ β' a' w', Ext β β' σ.nxt σ'.nxt → RepS E β' w0 σ' a' w' → K a' w') : o.wp P a w K Q := by
  unfold stepO at hs
  split at hs
  · rename_i r he
    unfold eff at he
    simp only [effCall] at he
    split at he
    · rename_i t x y ho
      cases he
      exact storeS_wp ho h hs K Q (fun a' w' he hr => hK β a' w' he hr)
    · rename_i c ho
      split at he
      · rename_i s x t u hc ha ht
        split at he
        · rename_i htu
          cases he
          have htu' : t = u := Nat.eq_of_beq_eq_true htu
          subst htu'
          obtain ⟨callee, args, argTypes⟩ := c
          simp only at hc ha ht
          subst hc
          have ha' : args = #[s, x] := by rw [← Array.toArray_toList (xs := args), ha]
          have ht' : argTypes = #[t, t] := by rw [← Array.toArray_toList (xs := argTypes), ht]
          subst ha'; subst ht'
          exact appendS_wp ho h hs K Q hK
        · cases he; cases hs
      · rename_i g hc
        split at he
        · cases he
          obtain ⟨callee, args, argTypes⟩ := c
          simp only at hc
          subst hc
          obtain ⟨r, hr, hs⟩ := Out.sel_bind_some hs
          simp only [Out.sel, Option.some.injEq] at hs
          subst hs
          obtain ⟨hp1, hfx⟩ := hH.fr _ _ _ _ hr h.pc
          obtain ⟨⟨fn, hfn, hbody⟩, hcalls⟩ := hfx β w0 w a (args.toList.map a.eval) (reps_map (fun x => evalO_rep h.tm x) _) h
          have hrun : (execOp a.eval o).run P w = .ok (.enter g (args.toList.map a.eval).toArray) w := by
            have hb : fn.body.isNone = false := by cases hbd : fn.body <;> simp_all
            simp only [execOp, ho, resolve, Act.eval, Deferred.ofValue, Sem.run_bind, Sem.run_pure, Result.andThen_ok, invoke, callFunc, run_program, hfn, hN g fn hfn, hb]
            simp only [Bool.false_eq_true, if_false, Sem.run_pure]
            congr 3
            first | rfl | (apply Array.ext'; simp)
          unfold Oper.wp
          rw [hrun]
          refine Calls.mono hcalls ?_
          rintro e w' ⟨v, β', rfl, hrep, hext, hown, hfr, hle, hbel, hsw⟩
          exact hK β' _ _ hext { tm := putT_rep (swapS_rep hext.mono hsw h.tm) hrep _, df := (put_defers a _ _).trans h.df, own := hown, fresh := hfr, le := hle, below := hbel, ro := h.ro.below hext.mono (Below.refl _ _), pc := hp1 }
        · cases he
      · cases he
    · cases he
  · obtain ⟨r, hr, hs⟩ := Out.sel_bind_some hs
    simp only [Out.sel, Option.some.injEq] at hs
    subst hs
    obtain ⟨h1, h2, h3⟩ := opP_wp (o := o) hH hN (fun x => evalO_rep h.tm x) h.reads h.fresh h.le h.pc hr
    refine h3 K Q fun v w' β' hv hst => ?_
    exact hK β' _ _ hst.ext (h.after o.dst hst h2 h1 hv)

/-- How a guard comes out, by the symbolic value of its slot. -/
def GuardIs (E : Env) (look : Nat → Option SV) (g : Option (Nat × Bool)) (b : Bool) : Prop :=
  match g with
  | none => b = true
  | some (j, want) => ∃ s, look j = some s ∧ ((∃ t, s = .sc .bool t ∧ b = ((t.den E).toB == want)) ∨ (s = .tup [] ∧ b = false))

theorem guarded_sel {α : Type} {pc : PC} {g : Option (Nat × Bool)} {look : Nat → Option SV} {run skip : PC → Out α} {x : α} (hp : PcOk E pc) (h : (guarded pc g look run skip).sel E = some x) :
    ∃ pc' b, PcOk E pc' ∧ GuardIs E look g b ∧ ((b = true ∧ (run pc').sel E = some x) ∨ (b = false ∧ (skip pc').sel E = some x)) := by
  unfold guarded at h
  split at h
  · exact ⟨pc, true, hp, rfl, .inl ⟨rfl, h⟩⟩
  · rename_i j want
    split at h
    · rename_i t hl
      split at h
      · obtain ⟨pc', hp', h⟩ := fork_sel hp h
        rcases h with ⟨ht, h⟩ | ⟨ht, h⟩
        · exact ⟨pc', true, hp', ⟨_, hl, .inl ⟨t, rfl, by simp [ht]⟩⟩, .inl ⟨rfl, h⟩⟩
        · exact ⟨pc', false, hp', ⟨_, hl, .inl ⟨t, rfl, by simp [ht]⟩⟩, .inr ⟨rfl, h⟩⟩
      · obtain ⟨pc', hp', h⟩ := fork_sel hp h
        rcases h with ⟨ht, h⟩ | ⟨ht, h⟩
        · exact ⟨pc', false, hp', ⟨_, hl, .inl ⟨t, rfl, by simp [ht]⟩⟩, .inr ⟨rfl, h⟩⟩
        · exact ⟨pc', true, hp', ⟨_, hl, .inl ⟨t, rfl, by simp [ht]⟩⟩, .inl ⟨rfl, h⟩⟩
    · rename_i hl
      exact ⟨pc, false, hp, ⟨_, hl, .inr ⟨rfl, rfl⟩⟩, .inr ⟨rfl, h⟩⟩
    · cases h

theorem guard_wanted {ops : Array Oper} {o : Oper} {look : Nat → Option SV} {b : Bool} (hg : GuardIs E look o.guard b)
    (hl : ∀ j s, look j = some s → s ≠ .un → ∃ d v, (ops[j]?).bind (·.dst) = some d ∧ a.tmps[d]? = some v ∧ SV.rep E β s v) : Region.wanted o (yielded ops a.tmps) = b := by
  unfold Region.wanted
  cases hgd : o.guard with
  | none => rw [hgd] at hg; exact hg.symm
  | some jw =>
    obtain ⟨j, want⟩ := jw
    rw [hgd] at hg
    obtain ⟨s, hls, hc⟩ := hg
    obtain ⟨d, v, h1, h2, h3⟩ := hl j s hls (by rcases hc with ⟨t, rfl, _⟩ | ⟨rfl, _⟩ <;> simp)
    simp only [yielded, h1, Option.bind_some, h2]
    rcases hc with ⟨t, rfl, rfl⟩ | ⟨rfl, rfl⟩
    · have := bool_rep h3
      subst this
      simp only
      cases (t.den E).toB <;> cases want <;> rfl
    · simp only [SV.rep] at h3
      obtain ⟨vs, rfl, _⟩ := h3
      rfl

theorem dstOf_get (ops : Array Oper) (j : Nat) : dstOf ops.toList j = (ops[j]?).bind (·.dst) := by
  unfold dstOf
  rw [nth?_get, Array.getElem?_toList]
  cases ops[j]? <;> rfl

theorem stepG_wp (hH : HndOk P E H) (hN : Named P) {ops : Array Oper} {i : Nat} {o : Oper} (hi : ops[i]? = some o) (h : RepS E β w0 σ a w) (hs : (stepG H P ops.toList σ o).sel E = some σ')
    (K : Act → World → Prop) (Q : Exit → Act → World → Prop) (hK : ∀ β' a' w', Ext β β' σ.nxt σ'.nxt → RepS E β' w0 σ' a' w' → K a' w') : wpOp P ops Q i K a w := by
  unfold stepG at hs
  obtain ⟨pc', b, hp', hg, hc⟩ := guarded_sel h.pc hs
  have hw := guard_wanted (a := a) (β := β) (ops := ops) hg (fun j s hj _ => by
    rw [dstOf_get] at hj
    cases hd : (ops[j]?).bind (·.dst) with
    | none => rw [hd] at hj; cases hj
    | some d =>
      rw [hd] at hj
      simp only at hj
      obtain ⟨v, hv, hr⟩ := reps_get h.tm hj
      rw [Array.getElem?_toList] at hv
      exact ⟨d, v, rfl, hv, hr⟩)
  unfold wpOp
  simp only [hi, hw]
  rcases hc with ⟨rfl, hs⟩ | ⟨rfl, hs⟩
  · simp only [if_true]
    exact .inl (stepO_wp hH hN (σ := { σ with pc := pc' }) { h with pc := hp' } hs K Q hK)
  · simp only [Bool.false_eq_true, if_false]
    simp only [Out.sel, Option.some.injEq] at hs
    subst hs
    exact hK β _ _ (Ext.refl _ _) { h with tm := putT_rep h.tm undef_rep _, df := (put_defers a _ _).trans h.df, pc := hp' }

theorem seqOps_wp (hH : HndOk P E H) (hN : Named P) {ops : Array Oper} {Q : Exit → Act → World → Prop} : ∀ (rest : List Oper) (i0 : Nat) {β : Pl} {σ : St} {a : Act} {w : World}, (∀ k, rest[k]? = ops[i0 + k]?) → RepS E β w0 σ a w →
    (seqOps H P ops.toList rest σ).sel E = some σ' → (∀ β' a' w', Ext β β' σ.nxt σ'.nxt → RepS E β' w0 σ' a' w' → Q .normal a' w') → wpOps P ops Q (List.range' i0 rest.length) a w
  | [], i0, β, σ, a, w, _, h, hs, hQ => by
    simp only [seqOps, Out.sel, Option.some.injEq] at hs
    subst hs
    exact hQ β a w (Ext.refl _ _) h
  | o :: rest, i0, β, σ, a, w, hr, h, hs, hQ => by
    simp only [seqOps, fList_eq] at hs
    obtain ⟨σ1, hs1, hs2⟩ := Out.sel_bind_some hs
    simp only [List.length_cons, List.range'_succ]
    rw [wpOps_cons]
    refine stepG_wp hH hN (i := i0) (by have := hr 0; simpa using this.symm) h hs1 _ Q fun β' a' w' hle hrep => ?_
    exact seqOps_wp hH hN rest (i0 + 1) (fun k => by have := hr (k + 1); simpa [Nat.add_assoc, Nat.add_comm 1 k] using this) hrep hs2 (fun β2 a2 w2 hle2 hrep2 => hQ β2 a2 w2 (Ext.trans hle hle2) hrep2)

end
end Go.Sx
