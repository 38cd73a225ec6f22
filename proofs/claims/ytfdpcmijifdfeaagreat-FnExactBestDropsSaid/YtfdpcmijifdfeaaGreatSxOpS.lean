/- The symbolic executor's single operations are sound. No condition. -/
import Derived.Test.YtfdpcmijifdfeaaGreatSxOp
import Derived.Test.YtfdpcmijifdfeaaGreatSxF
import Derived.Laws.StructEq
import Derived.Laws.IdiomCopy
import Derived.Laws.BytesString
import Derived.Laws.MakeOwn
set_option linter.unusedVariables false
set_option linter.unusedSimpArgs false
noncomputable section
namespace Go.Sx
open Go Go.RowKit

section
variable {P : Program} {E : Env} {β : Pl}

theorem one_rep {s : SV} {v : Value} (h : s.one = true) (hr : SV.rep E β s v) : v.oneCell' = true := by
  cases s <;> simp only [SV.one, Bool.false_eq_true] at h <;> simp only [SV.rep] at hr
  · rename_i k t; cases k <;> simp only [SK.rep] at hr <;> first | (subst hr; rfl) | (obtain ⟨x, rfl, _⟩ := hr; rfl)
  · obtain ⟨b, _, rfl⟩ := hr; rfl
  · subst hr; rfl
  · obtain ⟨b, c, _, rfl, _⟩ := hr; rfl
  · subst hr; rfl
  · obtain ⟨b, _, _, rfl, _⟩ := hr; rfl
  · obtain ⟨b, l, c, _, rfl, _⟩ := hr; rfl
  · obtain ⟨b, l, _, rfl, _⟩ := hr; rfl
  · obtain ⟨b, k, l, _, _, _, rfl, _⟩ := hr; rfl
  · obtain ⟨a, c, rfl, _⟩ := hr; rfl
  · subst hr; rfl
  · subst hr; rfl
theorem ones_rep : ∀ {ss : List SV} {vs : List Value}, ones ss = true → SV.reps E β ss vs → ∀ v ∈ vs, v.oneCell' = true
  | [], vs, _, hr, v, hv => by simp at hr; subst hr; cases hv
  | s :: r, vs, h, hr, v, hv => by
    simp only [ones] at h
    split at h
    · rename_i h1
      simp only [SV.reps] at hr
      obtain ⟨x, rest, rfl, hx, hrest⟩ := hr
      rcases List.mem_cons.1 hv with rfl | hv
      · exact one_rep h1 hx
      · exact ones_rep h hrest v hv
    · cases h
theorem one_cells {v : Value} (h : v.oneCell' = true) : v.cells = #[v] := by cases v <;> first | rfl | (simp [Value.oneCell'] at h)
theorem cells_rep {s : SV} {cs : List SV} {v : Value} (h : s.cells = some cs) (hr : SV.rep E β s v) :
    SV.reps E β cs v.cells.toList ∧ ∀ x ∈ v.cells.toList, x.oneCell' = true := by
  have single : ∀ {s : SV}, s.one = true → SV.rep E β s v → SV.reps E β [s] v.cells.toList ∧ ∀ x ∈ v.cells.toList, x.oneCell' = true := by
    intro s h1 hr
    have h2 := one_rep h1 hr
    rw [one_cells h2]
    exact ⟨by simpa using hr, fun x hx => by simp at hx; subst hx; exact h2⟩
  cases s <;> simp only [SV.cells, Option.some.injEq, reduceCtorEq] at h
  case agg cs' =>
    split at h
    · rename_i h1
      cases h
      simp only [SV.rep] at hr
      obtain ⟨vs, rfl, hv⟩ := hr
      exact ⟨hv, ones_rep h1 hv⟩
    · cases h
  all_goals (subst h; exact single rfl hr)

theorem ofCell_rep (v : Value) : SV.rep E β (ofCell v) v := by
  unfold ofCell
  split
  · simp [SV.rep, SK.rep, Tm.den]
  · simp [SV.rep, SK.rep, Tm.den]
  · split
    · simp [SV.rep]
    · rename_i hx
      simp only [SV.rep, SK.rep, Tm.den, Sc.toF_f]
      exact ⟨_, rfl, canon_not _ _ hx⟩
  all_goals simp [SV.rep, SK.rep, Tm.den]
theorem ofCells_rep (vs : List Value) : SV.reps E β (vs.map ofCell) vs := by
  induction vs with
  | nil => simp
  | cons v r ih => simp only [List.map_cons, reps_cons]; exact ⟨ofCell_rep v, ih⟩
theorem ofVal_rep (v : Value) : SV.rep E β (ofVal v) v := by
  unfold ofVal
  split
  · rename_i cs; simp only [SV.rep]; exact ⟨cs, rfl, ofCells_rep _⟩
  · rename_i cs; simp only [SV.rep]; exact ⟨cs, rfl, ofCells_rep _⟩
  · rename_i f a c
    split
    · rename_i ha hc
      simp only [SV.rep]
      exact ⟨a, c, rfl, by simp [ha], by simp [hc]⟩
    · simp [SV.rep]
  · exact ofCell_rep v

theorem evalO_rep {tm : List SV} {a : Act} (h : SV.reps E β tm a.tmps.toList) (x : Operand) : SV.rep E β (evalO tm x) (a.eval x) := by
  cases x with
  | tmp t =>
    simp only [evalO, kGet_eq, Act.eval]
    by_cases ht : t < tm.length
    · obtain ⟨v, hv, hr⟩ := reps_get h (List.getElem?_eq_getElem ht)
      have e1 : tm.getD t .un = tm[t] := by simp [List.getD, ht]
      have e2 : a.tmps.getD t undef = v := by
        rw [Array.getElem?_toList] at hv
        simp [Array.getD_eq_getD_getElem?, hv]
      rw [e1, e2]; exact hr
    · have e1 : tm.getD t .un = .un := by simp [List.getD, List.getElem?_eq_none (Nat.le_of_not_lt ht)]
      rw [e1]; simp [SV.rep]
  | const v => exact ofVal_rep v
  | global g => simp [evalO, SV.rep]
  | func f => simp [evalO, Act.eval, SV.rep]

/-! Types -/
theorem aggT_run {t : TypeId} {b : Bool} (h : aggT P t = some b) (w : World) : (isAgg t).run P w = .ok b w := by
  unfold aggT at h
  unfold isAgg
  split at h <;> cases h
  · rename_i hu; simp [run_underlying hu]
  · rename_i hu; simp [run_underlying hu]
  · rename_i d h1 h2 hu
    simp only [Sem.run_bind, run_underlying hu, Result.andThen_ok]
    cases d <;> first | rfl | (exact absurd hu (h1 _)) | (exact absurd hu (h2 _ _))
theorem szT_run {t : TypeId} {n : Nat} (h : szT P t = some n) (w : World) : (sizeOf t).run P w = .ok n w := by
  unfold szT at h
  split at h <;> cases h
  rename_i i hi
  simp [sizeOf, typeInfo, hi]
theorem zeroT_run {t : TypeId} {s : SV} (h : zeroT P t = some s) (w : World) : ∃ v, (zeroValue t).run P w = .ok v w ∧ SV.rep E β s v := by
  unfold zeroT at h
  split at h
  · rename_i i hi
    split at h <;> cases h
    rename_i v hv
    exact ⟨v, by simp [zeroValue, typeInfo, hi, hv], ofVal_rep v⟩
  · cases h

theorem cut_some : ∀ {cs : List SV} {o n : Nat} {x : List SV}, cut cs o n = some x → x = (cs.drop o).take n ∧ x.length = n
  | cs, 0, 0, x, h => by simp [cut] at h; subst h; simp
  | [], 0, n + 1, x, h => by simp [cut] at h
  | c :: r, 0, n + 1, x, h => by
    simp only [cut] at h
    split at h
    · rename_i y hy
      cases h
      obtain ⟨h1, h2⟩ := cut_some hy
      simp at h1
      exact ⟨by simp [h1], by simp [h2]⟩
    · cases h
  | [], o + 1, n, x, h => by cases n <;> simp [cut] at h
  | c :: r, o + 1, n, x, h => by
    simp only [cut] at h
    obtain ⟨h1, h2⟩ := cut_some h
    exact ⟨by simpa using h1, h2⟩
theorem cut_get {cs : List SV} {o n : Nat} {x : List SV} (h : cut cs o n = some x) {i : Nat} {s : SV} (hi : x[i]? = some s) : cs[o + i]? = some s := by
  obtain ⟨h1, h2⟩ := cut_some h
  have hlt : i < n := by have := (List.getElem?_eq_some_iff.1 hi).1; omega
  rw [h1, List.getElem?_take, if_pos hlt, List.getElem?_drop] at hi
  exact hi

/-- A part of an aggregate. -/
theorem partS_run {t : TypeId} {cs : List SV} {o : Nat} {s : SV} (h : partS P t cs o = some s) {vs : Array Value} (hr : SV.reps E β cs vs.toList) (w : World) :
    ∃ v, (part t vs o).run P w = .ok v w ∧ SV.rep E β s v := by
  unfold partS at h
  unfold part
  split at h
  · rename_i ha
    split at h
    · rename_i n hn
      split at h <;> cases h
      rename_i x hx
      refine ⟨.agg (vs.extract o (o + n)), by simp [aggT_run ha, szT_run hn], ?_⟩
      simp only [SV.rep]
      refine ⟨_, rfl, reps_iff.2 ⟨?_, fun i t hi => ?_⟩⟩
      · obtain ⟨h1, h2⟩ := cut_some hx
        have hl := reps_length hr
        have : (cs.drop o).length ≥ n := by
          rw [h1, List.length_take] at h2; omega
        simp only [List.length_drop, Array.length_toList] at *
        simp [h2]; omega
      · have h3 := cut_get hx hi
        obtain ⟨v, hv, hrep⟩ := reps_get hr h3
        have hlt : i < n := by have := (List.getElem?_eq_some_iff.1 hi).1; have := (cut_some hx).2; omega
        refine ⟨v, ?_, hrep⟩
        rw [Array.getElem?_toList] at hv ⊢
        rw [Array.getElem?_extract]
        have : o + i < vs.size := (Array.getElem?_eq_some_iff.1 hv).1
        rw [if_pos (by omega)]
        exact hv
    · cases h
  · rename_i ha
    obtain ⟨v, hv, hrep⟩ := reps_get hr ((nth?_get ..).symm.trans h)
    rw [Array.getElem?_toList] at hv
    exact ⟨v, by simp [aggT_run ha, hv], hrep⟩
  · cases h

theorem add_at (b o i : Nat) : (⟨b, o, none⟩ : Addr).add i = ⟨b, o + i, none⟩ := by
  unfold Addr.add
  split
  · rename_i h; subst h; rfl
  · rfl

theorem list_choice {A B : Type} (R : A → B → Prop) : ∀ (l : List A) (f : Nat → Option B), (∀ (i : Nat) (a : A), l[i]? = some a → ∃ b, f i = some b ∧ R a b) →
    ∃ bs : List B, bs.length = l.length ∧ (∀ (i : Nat) (b : B), bs[i]? = some b → f i = some b) ∧ ∀ (i : Nat) (a : A), l[i]? = some a → ∃ b, bs[i]? = some b ∧ R a b
  | [], f, _ => ⟨[], rfl, fun i b h => by simp at h, fun i a h => by simp at h⟩
  | a :: l, f, h => by
    obtain ⟨b, hb, hr⟩ := h 0 a rfl
    obtain ⟨bs, h1, h2, h3⟩ := list_choice R l (fun i => f (i + 1)) (fun i x hx => h (i + 1) x (by simpa using hx))
    refine ⟨b :: bs, by simp [h1], fun i x hx => ?_, fun i x hx => ?_⟩
    · cases i with
      | zero => simp at hx; subst hx; exact hb
      | succ i => exact h2 i x (by simpa using hx)
    · cases i with
      | zero => simp at hx; subst hx; exact ⟨b, rfl, hr⟩
      | succ i => simpa using h3 i x (by simpa using hx)

/-- Cells of memory, loaded. -/
theorem loadCells_run {sb : SB} {b : Bs} {w : World} (hr : SB.reads E β sb b w) {o n : Nat} {x : List SV} (h : cut sb.cs o n = some x) :
    ∃ vs : List Value, (loadCells ⟨b.blk, b.off + o, none⟩ n).run P w = .ok vs.toArray w ∧ vs.length = n ∧ SV.reps E β x vs ∧ (∀ v ∈ vs, v.oneCell' = true) ∧ ∀ i v, vs[i]? = some v → w.cell? ⟨b.blk, b.off + o + i, none⟩ = some v := by
  obtain ⟨vs, h1, h2, h3⟩ := list_choice (fun (s : SV) (v : Value) => v.oneCell' = true ∧ SV.rep E β s v) x (fun i => w.cell? ⟨b.blk, b.off + (o + i), none⟩) (fun i s hi => by
    obtain ⟨v, hv, h1, h2⟩ := hr.2 (o + i) s (cut_get h hi)
    exact ⟨v, hv, h1, h2⟩)
  have hn := (cut_some h).2
  have hc : ∀ i v, vs[i]? = some v → w.cell? ⟨b.blk, b.off + o + i, none⟩ = some v := fun i v hv => by rw [Nat.add_assoc]; exact h2 i v hv
  refine ⟨vs, ?_, by omega, reps_iff.2 ⟨h1, fun i s hi => ?_⟩, fun v hv => ?_, hc⟩
  · have := run_loadCells_list (P := P) w ⟨b.blk, b.off + o, none⟩ vs (fun j v hv => by rw [add_at]; exact hc j v hv)
    rwa [show vs.length = n by omega] at this
  · obtain ⟨v, hv, _, hrep⟩ := h3 i s hi; exact ⟨v, hv, hrep⟩
  · obtain ⟨i, hi, rfl⟩ := List.getElem_of_mem hv
    obtain ⟨v', hv', h4, _⟩ := h3 i x[i] (List.getElem?_eq_getElem (by omega))
    rw [List.getElem?_eq_getElem hi] at hv'; cases hv'; exact h4

theorem loadVar_run {sb : SB} {b : Bs} {w : World} (hr : SB.reads E β sb b w) {t : TypeId} {o : Nat} {s : SV} (h : partS P t sb.cs o = some s) :
    ∃ v, (loadVar t ⟨b.blk, b.off + o, none⟩).run P w = .ok v w ∧ SV.rep E β s v := by
  unfold partS at h
  unfold loadVar
  split at h
  · rename_i ha
    split at h
    · rename_i n hn
      split at h <;> cases h
      rename_i x hx
      obtain ⟨vs, h1, _, h2, _⟩ := loadCells_run (P := P) hr hx
      exact ⟨.agg vs.toArray, by simp [aggT_run ha, szT_run hn, h1], by simp only [SV.rep]; exact ⟨_, rfl, by simpa using h2⟩⟩
    · cases h
  · rename_i ha
    obtain ⟨v, hv, _, hrep⟩ := hr.2 o s ((nth?_get ..).symm.trans h)
    exact ⟨v, by simp [aggT_run ha, hv], hrep⟩
  · cases h
end

section
variable {P : Program} {E : Env} {β : Pl}
/-- One cell of a row of an open list. -/
theorem rowCell_run {sb : SB} {b : Bs} {w : World} (hr : SB.reads E β sb b w) {ks : List SK} {t i : Tm} {k l : Nat} (hk : (k : Int) = (i.den E).toI) (hkl : k < l) (hval : b.val = (t.den E).list) (hrows : RowsOk (kScs ks) (l : Nat) b.val)
    {q : Nat} {kd : SK} (hq : ks[q]? = some kd) : ∃ v : Value, w.cell? ⟨b.blk, b.off + (k * ks.length + q), none⟩ = some v ∧ v.oneCell' = true ∧ kd.rep ((cellT t i ks.length q).den E) v := by
  have hqlt : q < ks.length := (List.getElem?_eq_some_iff.1 hq).1
  have hlen : (kScs ks).length = ks.length := by simp [kScs]
  have hvl : b.val.length = l * ks.length := by
    have := hrows.1
    rw [hlen, ← Int.natCast_mul] at this
    exact Int.ofNat.inj this
  have hidx : k * ks.length + q < b.val.length := by
    rw [hvl]
    have : (k + 1) * ks.length ≤ l * ks.length := Nat.mul_le_mul_right _ hkl
    rw [Nat.succ_mul] at this
    omega
  have hx : b.val[k * ks.length + q]? = some b.val[k * ks.length + q] := List.getElem?_eq_getElem hidx
  obtain ⟨c', hc'⟩ := hrows.2 _ _ hx
  rw [hlen, show (k * ks.length + q) % ks.length = q by rw [Nat.mul_comm, Nat.mul_add_mod]; exact Nat.mod_eq_of_lt hqlt] at hc'
  have hd : (kScs ks).getD q .nil = .i kd.n := by simp [kScs, List.getD, hq]
  rw [hd] at hc'
  rcases hr.gen with hnil | ⟨_, hg⟩
  · rw [hnil] at hidx; simp at hidx
  · obtain ⟨v, h1, h2, kd', c, h3, h4⟩ := hg _ _ hx
    rw [hc'] at h3
    simp only [Sc.cons.injEq, Sc.i.injEq, Int.natCast_inj] at h3
    have hkd : kd' = kd := SK.n_inj h3.1.symm
    subst hkd
    refine ⟨v, h1, h2, ?_⟩
    have e : (cellT t i ks.length q).den E = c := by
      show cellOf (t.den E).list _ = c
      unfold cellOf
      have e1 : (Sc.at_ 0 ((Tm.cons i (.cons (.il (.ofNat ks.length)) (.cons (.il (.ofNat q)) .nil))).den E)).toI.toNat = k := by
        simp only [Tm.den, Sc.at_zero, ← hk]; rfl
      have e2 : (Sc.at_ 1 ((Tm.cons i (.cons (.il (.ofNat ks.length)) (.cons (.il (.ofNat q)) .nil))).den E)).toI.toNat = ks.length := rfl
      have e3 : (Sc.at_ 2 ((Tm.cons i (.cons (.il (.ofNat ks.length)) (.cons (.il (.ofNat q)) .nil))).den E)).toI.toNat = q := rfl
      rw [e1, e2, e3, ← hval, hx, hc']
      exact h3.2
    rw [e]; exact h4
theorem rowCells_get {ks : List SK} {t i : Tm} {len : Nat} : ∀ {n o : Nat} {l : List SV}, rowCells ks t i len o n = some l → l.length = n ∧ ∀ (q : Nat) (s : SV), l[q]? = some s → ∃ kd, ks[o + q]? = some kd ∧ s = .sc kd (cellT t i len (o + q))
  | 0, o, l, h => by
    cases h
    exact ⟨rfl, fun q s hq => by simp at hq⟩
  | n + 1, o, l, h => by
    simp only [rowCells] at h
    split at h
    · rename_i k r hk hr
      cases h
      rw [nth?_get] at hk
      obtain ⟨g1, g2⟩ := rowCells_get hr
      refine ⟨by simp [g1], fun q s hq => ?_⟩
      cases q with
      | zero => simp at hq; subst hq; exact ⟨k, hk, rfl⟩
      | succ q =>
        obtain ⟨kd, h1, h2⟩ := g2 q s (by simpa using hq)
        rw [show o + 1 + q = o + (q + 1) by omega] at h1 h2
        exact ⟨kd, h1, h2⟩
    · cases h
theorem rowPart_run {sb : SB} {b : Bs} {w : World} (hr : SB.reads E β sb b w) {ks : List SK} {t i : Tm} {k l : Nat} (hk : (k : Int) = (i.den E).toI) (hkl : k < l) (hval : b.val = (t.den E).list) (hrows : RowsOk (kScs ks) (l : Nat) b.val)
    {ty : TypeId} {o : Nat} {s : SV} (h : rowPart P ty ks t i o = some s) : ∃ v, (loadVar ty ⟨b.blk, b.off + (k * ks.length + o), none⟩).run P w = .ok v w ∧ SV.rep E β s v := by
  unfold rowPart at h
  unfold loadVar
  split at h
  · rename_i ha
    split at h
    · rename_i n hn
      split at h
      · rename_i x hx
        cases h
        obtain ⟨g1, g2⟩ := rowCells_get hx
        obtain ⟨vs, h1, h2, h3⟩ := list_choice (fun (s : SV) (v : Value) => v.oneCell' = true ∧ SV.rep E β s v) x (fun q => w.cell? ⟨b.blk, b.off + (k * ks.length + (o + q)), none⟩) (fun q s hq => by
          obtain ⟨kd, e1, rfl⟩ := g2 q s hq
          obtain ⟨v, c1, c2, c3⟩ := rowCell_run hr hk hkl hval hrows e1
          exact ⟨v, c1, c2, c3⟩)
        have hload := run_loadCells_list (P := P) w ⟨b.blk, b.off + (k * ks.length + o), none⟩ vs (fun j v hv => by
          rw [add_at, show b.off + (k * ks.length + o) + j = b.off + (k * ks.length + (o + j)) by omega]; exact h2 j v hv)
        rw [show vs.length = n by omega] at hload
        refine ⟨.agg vs.toArray, by simp [aggT_run ha, szT_run hn, hload], ?_⟩
        simp only [SV.rep]
        exact ⟨_, rfl, reps_iff.2 ⟨by simpa using h1, fun q s hq => by
          obtain ⟨v, hv, _, hrep⟩ := h3 q s hq
          exact ⟨v, by simpa using hv, hrep⟩⟩⟩
      · cases h
    · cases h
  · rename_i ha
    split at h
    · rename_i kd hkd
      cases h
      rw [nth?_get] at hkd
      obtain ⟨v, c1, c2, c3⟩ := rowCell_run hr hk hkl hval hrows hkd
      exact ⟨v, by simp [aggT_run ha, c1], c3⟩
    · cases h
  · cases h
end
/-- Names that are still free. -/
def Fresh (β : Pl) (n l : Nat) : Prop := ∀ j, n ≤ j → j < l → β j = none
def upd (β : Pl) (j : Nat) (b : Bs) : Pl := fun i => if i = j then some b else β i
theorem upd_le {β : Pl} {n l : Nat} (h : Fresh β n l) (hl : n < l) (b : Bs) : Pl.le β (upd β n b) := by
  intro j x hx
  unfold upd
  split
  · rename_i hj; subst hj; rw [h j (Nat.le_refl _) hl] at hx; cases hx
  · exact hx

theorem ext_upd {β : Pl} {n l : Nat} (h : Fresh β n l) (hl : n < l) (b : Bs) : Ext β (upd β n b) n (n + 1) :=
  ⟨upd_le h hl b, fun j hj => by unfold upd; rw [if_neg (by omega)], Nat.le_succ _⟩
/-- A new block. -/
theorem step_newR {E : Env} {β : Pl} {w : World} {n l : Nat} (hf : Fresh β n l) (hl : n < l) {cs : List SV} {arr : Array Value} (e : TypeId) (cap : Nat) (row : Option (Nat × Nat × Nat))
    (hr : SV.reps E β cs arr.toList) (h1 : ∀ v ∈ arr.toList, v.oneCell' = true)
    (hrow : match row with
      | none => True
      | some (e', size, n) => e = e' ∧ arr.size = cap * size ∧ n ≤ cap ∧ cap ≤ maxLen ∧ cs.length = n * size)
    (hz : ∀ e s, row = some (e, s, 0) → cap = 0) :
    Step E β (upd β n ⟨w.heap.size, 0, cap, []⟩) w (w.alloc (.cells arr e)) n (n + 1) [(n, ⟨cs, row⟩)] := by
  have hle := upd_le hf hl ⟨w.heap.size, 0, cap, []⟩
  refine ⟨(Below.refl _ _).alloc (Nat.le_refl _) _, hle, fun j hj => ?_, Nat.le_succ _, ⟨fun j sb hj => ?_, fun j sb j' sb' b b' hj hj' hne => ?_⟩⟩
  · unfold upd; rw [if_neg (by omega)]
  · simp at hj
    obtain ⟨rfl, rfl⟩ := hj
    refine ⟨⟨w.heap.size, 0, cap, []⟩, by simp [upd], ⟨by simp, fun i s hi => ?_, .inl rfl, fun e s h _ => hz e s h⟩, Nat.le_refl _, rfl, arr, e, ?_, hrow⟩
    · obtain ⟨v, hv, hrep⟩ := reps_get hr hi
      refine ⟨v, ?_, h1 v (List.mem_of_getElem? hv), SV.rep_mono hle _ _ hrep⟩
      rw [Array.getElem?_toList] at hv
      simpa using hv
    · show (w.heap.push _)[w.heap.size]? = _
      simp
  · simp at hj hj'
    exact absurd (hj.1.trans hj'.1.symm) hne
theorem step_new {E : Env} {β : Pl} {w : World} {n l : Nat} (hf : Fresh β n l) (hl : n < l) {cs : List SV} {arr : Array Value} (e : TypeId) (cap : Nat)
    (hr : SV.reps E β cs arr.toList) (h1 : ∀ v ∈ arr.toList, v.oneCell' = true) :
    Step E β (upd β n ⟨w.heap.size, 0, cap, []⟩) w (w.alloc (.cells arr e)) n (n + 1) [(n, ⟨cs, none⟩)] := step_newR hf hl e cap none hr h1 trivial (fun _ _ h => by cases h)

/-- What is shown of an operation: it gives a value that the symbolic one stands for, and makes the memory that is said. -/
def OpOk (P : Program) (E : Env) (β : Pl) (n l : Nat) (w : World) (s : Sem Value) (r : Res) : Prop :=
  PcOk E r.pc ∧ r.nxt ≤ l ∧ ∃ v w' β', s.run P w = .ok v w' ∧ SV.rep E β' r.v v ∧ Step E β β' w w' n r.nxt r.nb

section
variable {P : Program} {E : Env} {β : Pl} {m : Mm} {w : World} {pc : PC} {r : Res}

theorem OpOk.val {s : Sem Value} {sv : SV} {v : Value} (hl : m.nxt ≤ m.lim) (hp : PcOk E pc) (hs : s.run P w = .ok v w) (hv : SV.rep E β sv v)
    (h : (Sx.val m pc sv).sel E = some r) : OpOk P E β m.nxt m.lim w s r := by
  simp only [Sx.val, Out.sel, Option.some.injEq] at h
  subst h
  exact ⟨hp, hl, v, w, β, hs, hv, Step.refl _⟩
theorem OpOk.valF {s : Sem Value} {k : FloatKind} {t : Tm} (hl : m.nxt ≤ m.lim) (hp : PcOk E pc) (hs : FRun P s k (t.den E).toF w)
    (h : (Sx.val m pc (.sc (.float k) t)).sel E = some r) : OpOk P E β m.nxt m.lim w s r := by
  simp only [Sx.val, Out.sel, Option.some.injEq] at h
  subst h
  obtain ⟨x, w', hr, hc, hw⟩ := hs
  refine ⟨hp, hl, _, w', β, hr, ?_, ?_⟩
  · simp only [SV.rep, SK.rep]; exact ⟨x, rfl, hc⟩
  · rcases hw with rfl | rfl
    · exact Step.refl _
    · exact Step.drew _

theorem int_rep {k : IntKind} {t : Tm} {v : Value} (h : SV.rep E β (.sc (.int k) t) v) : v = .int k (t.den E).toI := by simpa [SV.rep, SK.rep] using h
theorem bool_rep {t : Tm} {v : Value} (h : SV.rep E β (.sc .bool t) v) : v = .bool (t.den E).toB := by simpa [SV.rep, SK.rep] using h
theorem str_rep {t : Tm} {v : Value} (h : SV.rep E β (.sc .str t) v) : v = .string ⟨(t.den E).toS.toArray⟩ := by simpa [SV.rep, SK.rep] using h
theorem float_rep {k : FloatKind} {t : Tm} {v : Value} (h : SV.rep E β (.sc (.float k) t) v) : ∃ x, v = .float k x ∧ canon k x = (t.den E).toF := by simpa [SV.rep, SK.rep] using h
theorem rep_int {k : IntKind} {t : Tm} {n : Int} (h : n = (t.den E).toI) : SV.rep E β (.sc (.int k) t) (.int k n) := by simp [SV.rep, SK.rep, h]
theorem rep_bool {t : Tm} {b : Bool} (h : b = (t.den E).toB) : SV.rep E β (.sc .bool t) (.bool b) := by simp [SV.rep, SK.rep, h]

theorem mkCmpR_den (o : Opc) (a : Tm) (b : Tm) : ((mkCmpR o a b).den E).toB = (o.den (a.den E) (b.den E)).toB := by
  induction b with
  | ite c x y _ ihx ihy =>
    simp only [mkCmpR, mkIteB_den, ihx, ihy, Tm.den]
    split <;> rfl
  | _ => simp only [mkCmpR, mkOp_den]
theorem cmpI_den (o : Opc) (r : Bool) (a b : Tm) (hr : ∀ c : Sc, (o.den c c).toB = r) : ((cmpI o r a b).den E).toB = (o.den (a.den E) (b.den E)).toB := by
  unfold cmpI
  split
  · rename_i h; rw [Tm.beq_eq h, hr]; rfl
  · split
    · exact mkCmp_den E o b a
    · split
      · exact mkCmpR_den o a b
      · rw [mkOp_den]
theorem eqi_self (c : Sc) : (Opc.eqi.den c c).toB = true := by simp [Opc.den]
theorem lti_self (c : Sc) : (Opc.lti.den c c).toB = false := by simp [Opc.den]
theorem lei_self (c : Sc) : (Opc.lei.den c c).toB = true := by simp [Opc.den]

theorem geT_ok (hp : PcOk E pc) {n : Int} {t : Tm} (h : geT pc n t = true) : n ≤ (t.den E).toI := by
  unfold geT at h
  split at h
  · rename_i l _ hi
    have h1 := (ivl_ok hp t _ _ hi).1
    have h2 : n ≤ l := ile_of h
    omega
  · cases h
theorem quo_zero {k : IntKind} {a b : Int} (ha : 0 ≤ a) (hb : 1 ≤ b) (hw : k.wrap (a.tdiv b) = a.tdiv b) : (k.wrap (a.tdiv b) = 0) ↔ a < b := by
  rw [hw, Int.tdiv_eq_ediv_of_nonneg ha]
  constructor
  · intro h
    rcases Int.lt_or_le a b with h1 | h1
    · exact h1
    · have := Int.le_ediv_of_mul_le (a := 1) (by omega : 0 < b) (by omega : 1 * b ≤ a)
      omega
  · intro h
    exact Int.ediv_eq_zero_of_lt ha h
theorem quoZ_den (hp : PcOk E pc) : ∀ (t : Tm), ((quoZ pc t).den E).toB = decide ((t.den E).toI = 0) := by
  intro t
  induction t with
  | ite c x y _ ihx ihy =>
    have plain : ((mkIteB c (quoZ pc x) (quoZ pc y)).den E).toB = decide (((Tm.ite c x y).den E).toI = 0) := by
      rw [mkIteB_den, ihx, ihy]
      simp only [Tm.den]
      split <;> rfl
    simp only [quoZ]
    split
    · rename_i hc
      have hc' := Tm.beq_eq hc
      split
      · rename_i hx hy
        have hx' := geT_ok hp hx
        have hy' := geT_ok hp hy
        rw [mkIteB_den, ihx, ihy, hc']
        simp only [Tm.den, Opc.den, Sc.toB_b]
        by_cases hlt : (x.den E).toI < (y.den E).toI
        · simp only [decide_eq_true hlt, if_true]
          by_cases hz : (x.den E).toI = 0
          · simp [hz]
          · have : ¬ (y.den E).toI = 0 := by omega
            simp [hz, this]
        · simp only [decide_eq_false hlt, Bool.false_eq_true, if_false]
          by_cases hz : (x.den E).toI = 0
          · have : (y.den E).toI = 0 := by omega
            simp [hz, this]
          · simp [hz]
      · exact plain
    · exact plain
  | op o x y _ _ =>
    simp only [quoZ]
    split
    · rename_i k
      split
      · rename_i l hh hx hy
        split
        · rename_i h0 hk
          obtain ⟨x1, x2⟩ := ivl_ok hp x _ _ hx
          have hy' := geT_ok hp hy
          have h0' : 0 ≤ l := ile_of h0
          have hkk := inK_ok hk
          rw [mkOp_den]
          simp only [Tm.den, Opc.den, Sc.toI_i, Sc.toB_b]
          have e3 : (x.den E).toI.tdiv (y.den E).toI = (x.den E).toI / (y.den E).toI := Int.tdiv_eq_ediv_of_nonneg (by omega)
          have e4 : 0 ≤ (x.den E).toI / (y.den E).toI := Int.ediv_nonneg (by omega) (by omega)
          have e5 : (x.den E).toI / (y.den E).toI ≤ (x.den E).toI := Int.ediv_le_self _ (by omega)
          have := quo_zero (k := k) (a := (x.den E).toI) (b := (y.den E).toI) (by omega) hy' (wrap_in k (by rw [e3]; omega) (by rw [e3]; omega))
          exact (decide_eq_decide.2 this).symm
        · rw [mkOp_den]; rfl
      · rw [mkOp_den]; rfl
    · rw [mkOp_den]; rfl
  | _ => simp only [quoZ]; rw [mkOp_den]; rfl
theorem eqZ_den (hp : PcOk E pc) (a b : Tm) : ((eqZ pc a b).den E).toB = decide ((a.den E).toI = (b.den E).toI) := by
  unfold eqZ
  split
  · rename_i n
    split
    · rename_i hn
      rw [quoZ_den hp, ieq_eq hn]; rfl
    · rw [cmpI_den _ _ _ _ eqi_self]; rfl
  · rw [cmpI_den _ _ _ _ eqi_self]; rfl

theorem ltI_den (hp : PcOk E pc) (a b : Tm) : ((ltI pc a b).den E).toB = decide ((a.den E).toI < (b.den E).toI) := by
  have base : ∀ b : Tm, ((cmpI .lti false a b).den E).toB = decide ((a.den E).toI < (b.den E).toI) := fun b => by rw [cmpI_den _ _ _ _ lti_self]; simp [Opc.den]
  unfold ltI
  split
  · rename_i o y z
    split
    · rename_i l h ho hz hi
      split
      · rename_i hk
        have ho' : o = .addi .i64 := Opc.n_inj (Nat.eq_of_beq_eq_true ho)
        have hz' := ieq_eq hz
        subst ho' hz'
        obtain ⟨i1, i2⟩ := ivl_ok hp y _ _ hi
        obtain ⟨k1, k2⟩ := inK_ok hk
        have e : ((Tm.op (.addi .i64) y (.il 1)).den E).toI = (y.den E).toI + 1 := by
          show IntKind.i64.wrap ((y.den E).toI + 1) = _
          exact wrap_in .i64 (by omega) (by omega)
        rw [e, cmpI_den _ _ _ _ lei_self]
        show decide ((a.den E).toI ≤ (y.den E).toI) = _
        exact decide_eq_decide.2 (by omega)
      · exact base _
    · exact base _
  · exact base _
theorem w64 (n : Int) : IntKind.i64.wrap n = (n + 9223372036854775808) % 18446744073709551616 - 9223372036854775808 := by
  simp only [IntKind.wrap, IntKind.bits, IntKind.signed]
  simp
  try split
  all_goals omega
theorem strip0_den (t : Tm) : IntKind.i64.wrap ((strip0 t).den E).toI = IntKind.i64.wrap (t.den E).toI := by
  induction t with
  | op o x y ihx ihy =>
    unfold strip0
    split
    · rename_i ho
      have ho' : o = .addi .i64 := Opc.n_inj (Nat.eq_of_beq_eq_true ho)
      subst ho'
      split
      · rename_i h
        rw [ihy, Tm.beq_eq h]
        show _ = IntKind.i64.wrap (IntKind.i64.wrap ((0 : Int) + (y.den E).toI))
        simp only [w64]
        omega
      · split
        · rename_i h
          rw [ihx, Tm.beq_eq h]
          show _ = IntKind.i64.wrap (IntKind.i64.wrap ((x.den E).toI + (0 : Int)))
          simp only [w64]
          omega
        · rfl
    · rfl
  | _ => rfl
theorem cancT_den (hp : PcOk E pc) {a b x : Tm} (h : cancT pc a b = some x) : (x.den E).toI = IntKind.i64.wrap ((a.den E).toI + (b.den E).toI) := by
  unfold cancT at h
  split at h
  · rename_i o u y
    split at h
    · rename_i l h' ho hy hi
      split at h
      · rename_i hk
        cases h
        have ho' : o = .subi .i64 := Opc.n_inj (Nat.eq_of_beq_eq_true ho)
        subst ho'
        have e := Tm.beq_eq hy
        subst e
        obtain ⟨i1, i2⟩ := ivl_ok hp x _ _ hi
        obtain ⟨k1, k2⟩ := inK_ok hk
        have e := wrap_in .i64 (n := (x.den E).toI) (by omega) (by omega)
        show _ = IntKind.i64.wrap (IntKind.i64.wrap ((x.den E).toI - (y.den E).toI) + (y.den E).toI)
        simp only [w64] at e ⊢
        omega
      · cases h
    · cases h
  · cases h
theorem addT_den (hp : PcOk E pc) (k : IntKind) (a b : Tm) : ((addT pc k a b).den E).toI = k.wrap ((a.den E).toI + (b.den E).toI) := by
  have base : ((mkOp (.addi k) a b).den E).toI = k.wrap ((a.den E).toI + (b.den E).toI) := by rw [mkOp_den]; rfl
  unfold addT
  split
  · rename_i hk
    have hk' : k = .i64 := ki_inj (Nat.eq_of_beq_eq_true hk)
    subst hk'
    have ea := strip0_den (E := E) a
    have eb := strip0_den (E := E) b
    split
    · rename_i x h
      rw [cancT_den hp h]
      simp only [w64] at ea eb ⊢
      omega
    · split
      · rename_i x h
        rw [cancT_den hp h]
        simp only [w64] at ea eb ⊢
        omega
      · exact base
  · exact base
theorem intBin_ok {op : BinOp} {k : IntKind} {a b : Tm} (hp : PcOk E pc) (hl : m.nxt ≤ m.lim) (h : (intBin m pc op k a b).sel E = some r) (hns : op ≠ .shl ∧ op ≠ .shr) (t : TypeId) :
    OpOk P E β m.nxt m.lim w (binOp op t (.int k (a.den E).toI) (.int k (b.den E).toI)) r := by
  have hb : ∀ op, op ≠ .shl → op ≠ .shr → binOp op t (.int k (a.den E).toI) (.int k (b.den E).toI) = (match op with
    | .add | .sub | .mul => Op.intArith op k (a.den E).toI (b.den E).toI
    | .quo | .rem => Op.intDiv op k (a.den E).toI (b.den E).toI
    | .and | .or | .xor | .andNot => Op.intBits op k (a.den E).toI (b.den E).toI
    | _ => Op.intCmp op (a.den E).toI (b.den E).toI) := by
    intro op h1 h2
    cases op <;> first | exact absurd rfl h1 | exact absurd rfl h2 | simp [binOp]
  rw [hb op hns.1 hns.2]
  cases op <;> simp only [intBin] at h
  case quo =>
    obtain ⟨pc', hp', h⟩ := fork_sel hp h
    rcases h with ⟨_, h⟩ | ⟨hz, h⟩
    · cases h
    · have hz' : ¬ (b.den E).toI = 0 := by rw [cmpI_den _ _ _ _ eqi_self] at hz; exact of_decide_eq_false hz
      exact .val (v := .int k (k.wrap ((a.den E).toI.tdiv (b.den E).toI))) hl hp' (by simp [Op.intDiv, hz']) (rep_int (by rw [mkOp_den]; rfl)) h
  case rem =>
    obtain ⟨pc', hp', h⟩ := fork_sel hp h
    rcases h with ⟨_, h⟩ | ⟨hz, h⟩
    · cases h
    · have hz' : ¬ (b.den E).toI = 0 := by rw [cmpI_den _ _ _ _ eqi_self] at hz; exact of_decide_eq_false hz
      exact .val (v := .int k ((a.den E).toI.tmod (b.den E).toI)) hl hp' (by simp [Op.intDiv, hz']) (rep_int (by rw [mkOp_den]; rfl)) h
  case shl => exact absurd rfl hns.1
  case shr => exact absurd rfl hns.2
  case eql => exact .val hl hp rfl (rep_bool (by rw [eqZ_den hp]; rfl)) h
  case neq => exact .val hl hp rfl (rep_bool (by rw [mkNot_den, eqZ_den hp]; rfl)) h
  case add => exact .val hl hp rfl (rep_int (addT_den hp k a b).symm) h
  case lss => exact .val hl hp rfl (rep_bool (by rw [ltI_den hp])) h
  case leq => exact .val hl hp rfl (rep_bool (by rw [cmpI_den _ _ _ _ lei_self]; simp [Opc.den])) h
  case gtr => exact .val hl hp rfl (rep_bool (by rw [ltI_den hp])) h
  case geq => exact .val hl hp rfl (rep_bool (by rw [cmpI_den _ _ _ _ lei_self]; simp [Opc.den])) h
  all_goals exact .val hl hp rfl (rep_int (by rw [mkOp_den]; rfl)) h

theorem shiftBin_ok {op : BinOp} {k k' : IntKind} {a b : Tm} (hp : PcOk E pc) (hl : m.nxt ≤ m.lim) (h : (shiftBin m pc op k a b).sel E = some r) (t : TypeId) :
    OpOk P E β m.nxt m.lim w (binOp op t (.int k (a.den E).toI) (.int k' (b.den E).toI)) r := by
  unfold shiftBin at h
  obtain ⟨pc', hp', h⟩ := fork_sel hp h
  rcases h with ⟨_, h⟩ | ⟨hz, h⟩
  · cases h
  · have hz' : ¬ (b.den E).toI < 0 := by rw [cmpI_den _ _ _ _ lti_self] at hz; exact of_decide_eq_false hz
    cases op <;> simp only [Out.sel, reduceCtorEq] at h
    · exact .val (v := .int k (k.wrap ((a.den E).toI * 2 ^ (min (b.den E).toI.toNat k.bits)))) hl hp' (by simp [binOp, Op.shift, hz']) (rep_int (by rw [mkOp_den]; rfl)) h
    · exact .val (v := .int k ((a.den E).toI.fdiv (2 ^ (min (b.den E).toI.toNat k.bits)))) hl hp' (by simp [binOp, Op.shift, hz']) (rep_int (by rw [mkOp_den]; rfl)) h

theorem mkFeq_den (k : FloatKind) (a b : Tm) : ((mkFeq k a b).den E).toB = F.eq k (a.den E).toF (b.den E).toF := by
  unfold mkFeq
  split
  · rename_i h
    rw [← Tm.beq_eq h, mkNot_den, mkOp_den, F.eq_self]; rfl
  · rw [mkOp_den]; rfl
theorem floatBin_ok {op : BinOp} {k : FloatKind} {a b : Tm} {x y : Nat} (hx : canon k x = (a.den E).toF) (hy : canon k y = (b.den E).toF) (hp : PcOk E pc) (hl : m.nxt ≤ m.lim)
    (h : (floatBin m pc op k a b).sel E = some r) (t : TypeId) : OpOk P E β m.nxt m.lim w (binOp op t (.float k x) (.float k y)) r := by
  obtain ⟨h1, h2, h3, h4⟩ := floatArith_run (P := P) w k x y
  rw [hx, hy] at h1 h2 h3 h4
  have hb : ∀ op, binOp op t (.float k x) (.float k y) = (match op with
    | .add | .sub | .mul | .quo => Op.floatArith op k x y
    | _ => Op.floatCmp op k x y) := by
    intro op
    cases op <;> simp [binOp]
  have ho := order_canon k x y
  have ho' := order_canon k y x
  rw [hx, hy] at ho
  rw [hx, hy] at ho'
  rw [hb op]
  cases op <;> simp only [floatBin] at h
  case add => exact .valF hl hp (by rw [mkOp_den]; exact h1) h
  case sub => exact .valF hl hp (by rw [mkOp_den]; exact h2) h
  case mul => exact .valF hl hp (by rw [mkOp_den]; exact h3) h
  case quo => exact .valF hl hp (by rw [mkOp_den]; exact h4) h
  case eql => exact .val hl hp rfl (rep_bool (by rw [mkFeq_den]; unfold F.eq; rw [ho])) h
  case neq => exact .val hl hp rfl (rep_bool (by rw [mkNot_den, mkFeq_den]; unfold F.eq; rw [ho]; rfl)) h
  case lss => exact .val hl hp rfl (rep_bool (by rw [mkOp_den]; simp only [Opc.den, Sc.toB_b, F.lt]; rw [ho])) h
  case leq => exact .val hl hp rfl (rep_bool (by rw [mkOp_den]; simp only [Opc.den, Sc.toB_b, F.le]; rw [ho])) h
  case gtr => exact .val hl hp rfl (rep_bool (by rw [mkOp_den]; simp only [Opc.den, Sc.toB_b]; rw [F.gt_lt]; unfold F.lt; rw [ho'])) h
  case geq => exact .val hl hp rfl (rep_bool (by rw [mkOp_den]; simp only [Opc.den, Sc.toB_b, F.le]; rw [F.gt_lt, F.eq_comm k x y]; unfold F.lt; rw [ho'])) h
  all_goals cases h

end
end Go.Sx
set_option linter.unusedVariables false
set_option linter.unusedSimpArgs false
noncomputable section
namespace Go.Sx
open Go Go.RowKit

section
variable {P : Program} {E : Env} {β : Pl} {m : Mm} {w : World} {pc : PC} {r : Res}

theorem mkEqs_den (a b : Tm) : ((mkEqs a b).den E).toB = decide ((a.den E).toS = (b.den E).toS) := by
  unfold mkEqs
  split
  · rename_i h; rw [Tm.beq_eq h]; simp [Tm.den]
  · rw [mkOp_den]; rfl
theorem bytes_eq (a b : List UInt8) : ((⟨a.toArray⟩ : ByteArray).toList == (⟨b.toArray⟩ : ByteArray).toList) = decide (a = b) := by
  rw [ByteArray.toList_eq, ByteArray.toList_eq]
  rw [Bool.eq_iff_iff]; simp
theorem strBin_ok {op : BinOp} {a b : Tm} (hp : PcOk E pc) (hl : m.nxt ≤ m.lim) (h : (strBin m pc op a b).sel E = some r) (t : TypeId) :
    OpOk P E β m.nxt m.lim w (binOp op t (.string ⟨(a.den E).toS.toArray⟩) (.string ⟨(b.den E).toS.toArray⟩)) r := by
  have hb : ∀ op, op ≠ .shl → op ≠ .shr → binOp op t (.string ⟨(a.den E).toS.toArray⟩) (.string ⟨(b.den E).toS.toArray⟩) = Op.stringOp op ⟨(a.den E).toS.toArray⟩ ⟨(b.den E).toS.toArray⟩ := by
    intro op h1 h2; cases op <;> first | exact absurd rfl h1 | exact absurd rfl h2 | simp [binOp]
  cases op <;> simp only [strBin, Out.sel, reduceCtorEq] at h
  case eql =>
    rw [hb _ (by simp) (by simp)]
    exact .val hl hp rfl (rep_bool (by rw [mkEqs_den]; exact bytes_eq _ _)) h
  case neq =>
    rw [hb _ (by simp) (by simp)]
    exact .val hl hp rfl (rep_bool (by rw [mkNot_den, mkEqs_den]; exact congrArg (!·) (bytes_eq _ _))) h
  case add =>
    rw [hb _ (by simp) (by simp)]
    obtain ⟨pc', hp', h⟩ := fork_sel hp h
    rcases h with ⟨hz, h⟩ | ⟨_, h⟩
    · rw [mkOp_den] at hz
      have hz' : (((a.den E).toS.length + (b.den E).toS.length : Nat) : Int) ≤ IntKind.i64.max := of_decide_eq_true hz
      refine .val (v := .string ⟨((a.den E).toS ++ (b.den E).toS).toArray⟩) hl hp' ?_ ?_ h
      · have : ¬ (((⟨(a.den E).toS.toArray⟩ : ByteArray).size + (⟨(b.den E).toS.toArray⟩ : ByteArray).size : Nat) : Int) > IntKind.i64.max := by
          simp only [ByteArray.size, List.size_toArray]; omega
        simp only [Op.stringOp, Sem.run_ite, if_neg this, Sem.run_pure, Result.ok.injEq, Value.string.injEq, and_true]
        apply ByteArray.ext
        simp [ByteArray.data_append]
      · simp [SV.rep, SK.rep, mkOp_den, Opc.den]
    · cases h

theorem mkEqb_den (a b : Tm) : ((mkEqb a b).den E).toB = ((a.den E).toB == (b.den E).toB) := by
  unfold mkEqb
  split
  · rename_i h; rw [Tm.beq_eq h]; simp [Tm.den]
  · split
    · simp [Tm.den]
    · rw [mkNot_den]; simp [Tm.den]
    · split
      · simp [Tm.den]
      · rw [mkNot_den]; simp [Tm.den]
      · rw [mkOp_den]; rfl

theorem eqCell_run {e : TypeId} {x y : SV} {q : Tm} (h : eqCell P e x y = some q) {vx vy : Value} (hx : SV.rep E β x vx) (hy : SV.rep E β y vy) (d : Nat) (w : World) :
    (Op.equalIn (d + 1) e vx vy).run P w = .ok (q.den E).toB w ∧ aggT P e = some false := by
  unfold eqCell at h
  split at h
  · rename_i hu
    cases h
    rw [bool_rep hx, bool_rep hy, mkEqb_den]
    exact ⟨run_equalIn_bool _ _ _ _ _ hu, by simp [aggT, hu]⟩
  · rename_i hu
    split at h
    · rename_i hk
      cases h
      have := ki_inj (Nat.eq_of_beq_eq_true hk)
      subst this
      rw [int_rep hx, int_rep hy, cmpI_den _ _ _ _ eqi_self]
      refine ⟨?_, by simp [aggT, hu]⟩
      rw [run_equalIn_int _ _ _ _ _ _ _ hu]
      rfl
    · cases h
  · rename_i hu
    split at h
    · rename_i hk
      cases h
      have := kf_inj (Nat.eq_of_beq_eq_true hk)
      subst this
      obtain ⟨p, rfl, hp⟩ := float_rep hx
      obtain ⟨p', rfl, hp'⟩ := float_rep hy
      rw [mkFeq_den, ← hp, ← hp']
      refine ⟨?_, by simp [aggT, hu]⟩
      simp only [Op.equalIn, Sem.run_bind, run_underlying hu, Result.andThen_ok, if_true, Sem.run_pure, Op.floatEq, F.eq, order_canon]
    · cases h
  · cases h

theorem part_one {e : TypeId} (ha : aggT P e = some false) {vs : List Value} {i : Nat} {v : Value} (hv : vs[i]? = some v) (w : World) : (part e vs.toArray i).run P w = .ok v w := by
  unfold part
  simp [aggT_run ha, hv]

/-- One round of the model's comparison of two arrays, and what is left of it. -/
theorem eqLoop_run {e : TypeId} (d : Nat) : ∀ {xs ys : List SV} {q : Tm}, eqCells P e xs ys = some q → ∀ (vx vy px py : List Value), SV.reps E β xs vx → SV.reps E β ys vy → px.length = py.length → ∀ w,
    (forIn (List.range' px.length vx.length) ((none, ()) : Option Bool × Unit) (fun i _ => do
      let b ← Op.equalIn (d + 1) e (← part e (px ++ vx).toArray (i * 1)) (← part e (py ++ vy).toArray (i * 1))
      if (!b) = true then pure (ForInStep.done ((some false, ()) : Option Bool × Unit)) else pure (ForInStep.yield ((none, ()) : Option Bool × Unit)))).run P w =
      .ok ((if (q.den E).toB then none else some false), ()) w
  | [], [], q, h, vx, vy, px, py, hx, hy, _, w => by
    simp at hx hy
    subst hx; subst hy
    cases h
    simp [Tm.den]
  | x :: xs, y :: ys, q, h, vx, vy, px, py, hx, hy, hl, w => by
    simp only [eqCells] at h
    split at h
    · cases h
    · rename_i a ha
      split at h
      · cases h
      · rename_i b hb
        cases h
        simp only [SV.reps] at hx hy
        obtain ⟨v, rx, rfl, hv, hrx⟩ := hx
        obtain ⟨u, ry, rfl, hu, hry⟩ := hy
        obtain ⟨h1, h2⟩ := eqCell_run ha hv hu d w
        have p1 : (part e (px ++ v :: rx).toArray px.length).run P w = .ok v w := part_one h2 (by simp) w
        have p2 : (part e (py ++ u :: ry).toArray px.length).run P w = .ok u w := part_one h2 (by rw [hl]; simp) w
        have ih := eqLoop_run d hb rx ry (px ++ [v]) (py ++ [u]) hrx hry (by simp [hl]) w
        simp only [List.append_assoc, List.singleton_append, List.length_append, List.length_cons, List.length_nil, Nat.zero_add] at ih
        simp only [List.length_cons, List.range'_succ, List.forIn_cons, Sem.run_bind, Nat.mul_one, p1, p2, Result.andThen_ok, h1, mkIteB_den, Tm.den, Sc.toB_b]
        cases (a.den E).toB
        · simp
        · simp only [Nat.mul_one] at ih
          simp only [Bool.not_true, Bool.false_eq_true, if_false, Sem.run_bind, Sem.run_pure, Result.andThen_ok, if_true]
          exact ih
  | [], _ :: _, _, h, _, _, _, _, _, _, _, _ => by cases h
  | _ :: _, [], _, h, _, _, _, _, _, _, _, _ => by cases h

theorem eqArr_runD {t : TypeId} {xs ys : List SV} {q : Tm} (h : eqArr P t xs ys = some q) {vx vy : Array Value} (hx : SV.reps E β xs vx.toList) (hy : SV.reps E β ys vy.toList) (d : Nat) (w : World) :
    (Op.equalIn (d + 1 + 1) t (.agg vx) (.agg vy)).run P w = .ok (q.den E).toB w ∧ P.eqGuardType P.depth t = false := by
  unfold eqArr at h
  split at h
  · rename_i n e hu
    split at h
    · rename_i hn hs hg
      refine ⟨?_, hg⟩
      have hn' : xs.length = n := Nat.eq_of_beq_eq_true hn
      have hlx := reps_length hx
      have key := eqLoop_run (P := P) d h vx.toList vy.toList [] [] hx hy rfl w
      simp only [List.nil_append, List.length_nil, Array.toArray_toList] at key
      rw [Op.equalIn]
      simp only [Sem.run_bind, run_underlying hu, Result.andThen_ok, szT_run hs]
      simp only [Std.Legacy.Range.forIn_eq_forIn_range', Std.Legacy.Range.size]
      have hsz : (n - 0 + 1 - 1) / 1 = vx.toList.length := by rw [Nat.div_one]; omega
      rw [hsz]
      rw [key]
      simp only [Result.andThen_ok]
      cases (q.den E).toB <;> rfl
    · cases h
  · cases h

theorem eqBool_run {op : BinOp} {t : TypeId} {a b : Tm} (hp : PcOk E pc) (hl : m.nxt ≤ m.lim) (ht : P.underlying t = some .bool)
    (h : (match op with | .eql => val m pc (.sc .bool (mkEqb a b)) | .neq => val m pc (.sc .bool (mkNot (mkEqb a b))) | _ => .bad 22).sel E = some r) :
    OpOk P E β m.nxt m.lim w (binOp op t (.bool (a.den E).toB) (.bool (b.den E).toB)) r := by
  split at h
  · exact .val hl hp (run_eql_bool _ _ _ _ ht) (rep_bool (by rw [mkEqb_den])) h
  · exact .val hl hp (run_neq_bool _ _ _ _ ht) (rep_bool (by rw [mkNot_den, mkEqb_den])) h
  · cases h

/-- A run of two parts, of which the first gives nothing and turns nothing. -/
theorem guard_run {α : Type} {s : Sem Unit} {f : Unit → Sem α} (h : s.run P w = .ok () w) : (s >>= f).run P w = (f ()).run P w := by
  simp [h]

theorem isNilS_rep {x : SV} {vx : Value} {b : Bool} (hx : SV.rep E β x vx) (h : isNilS x = some b) : ∃ (s : Option Addr) (n c : Nat), vx = .slice s n c ∧ s.isNone = b := by
  unfold isNilS at h
  split at h <;> cases h
  · simp only [SV.rep] at hx; subst hx; exact ⟨_, _, _, rfl, rfl⟩
  · simp only [SV.rep] at hx; obtain ⟨b, c, _, rfl, _⟩ := hx; exact ⟨_, _, _, rfl, rfl⟩
  · simp only [SV.rep] at hx; obtain ⟨b, _, _, rfl, _⟩ := hx; exact ⟨_, _, _, rfl, rfl⟩
  · simp only [SV.rep] at hx; obtain ⟨b, l, c, _, rfl, _⟩ := hx; exact ⟨_, _, _, rfl, rfl⟩
  · simp only [SV.rep] at hx; obtain ⟨b, l, _, rfl, _⟩ := hx; exact ⟨_, _, _, rfl, rfl⟩
theorem run_equal_nilS {t e : TypeId} (ht : P.underlying t = some (.slice e)) (s : Option Addr) (n c : Nat) :
    (Op.equal t (.slice s n c) (.slice none 0 0)).run P w = .ok s.isNone w := by
  unfold Op.equal
  rw [show Op.maxDepth = 9998 + 1 + 1 from rfl]
  unfold Op.equalIn
  rw [Sem.run_bind, run_underlying ht]
  cases s <;> rfl
theorem nilEqS_ok {op : BinOp} {t : TypeId} {x : SV} {vx : Value} (hx : SV.rep E β x vx) (hp : PcOk E pc) (hl : m.nxt ≤ m.lim)
    (h : (nilEqS P m pc op t x).sel E = some r) : OpOk P E β m.nxt m.lim w (binOp op t vx (.slice none 0 0)) r := by
  unfold nilEqS at h
  split at h
  · rename_i e b ht hb
    obtain ⟨s, n, c, rfl, rfl⟩ := isNilS_rep hx hb
    split at h
    · refine .val (v := .bool s.isNone) hl hp ?_ (rep_bool rfl) h
      simp only [binOp, Sem.run_bind, run_equal_nilS ht]
      rfl
    · refine .val (v := .bool (!s.isNone)) hl hp ?_ (rep_bool rfl) h
      simp only [binOp, Sem.run_bind, run_equal_nilS ht]
      rfl
    · cases h
  · cases h

theorem binS_ok {op : BinOp} {t : TypeId} {x y : SV} {vx vy : Value} (xo yo : Operand) (hx : SV.rep E β x vx) (hy : SV.rep E β y vy) (hp : PcOk E pc) (hl : m.nxt ≤ m.lim)
    (h : (binS P m pc op t x y).sel E = some r) : OpOk P E β m.nxt m.lim w (do eqGuard op t xo yo vx vy; binOp op t vx vy) r := by
  have go : (eqGuard op t xo yo vx vy).run P w = .ok () w → OpOk P E β m.nxt m.lim w (binOp op t vx vy) r → OpOk P E β m.nxt m.lim w (do eqGuard op t xo yo vx vy; binOp op t vx vy) r := by
    intro hg ⟨h1, h2, v, w', β', h3, h4⟩
    exact ⟨h1, h2, v, w', β', by rw [guard_run hg]; exact h3, h4⟩
  unfold binS at h
  split at h
  · rename_i k a k' b
    have ex := int_rep hx
    have ey := int_rep hy
    subst ex; subst ey
    refine go (by cases op <;> rfl) ?_
    split at h
    · exact shiftBin_ok hp hl h t
    · exact shiftBin_ok hp hl h t
    · rename_i h1 h2
      split at h
      · rename_i hk
        have := ki_inj (Nat.eq_of_beq_eq_true hk)
        subst this
        exact intBin_ok hp hl h ⟨h1, h2⟩ t
      · cases h
  · rename_i k a k' b
    obtain ⟨p, rfl, hpp⟩ := float_rep hx
    obtain ⟨q, rfl, hq⟩ := float_rep hy
    refine go (by cases op <;> rfl) ?_
    split at h
    · rename_i hk
      have := kf_inj (Nat.eq_of_beq_eq_true hk)
      subst this
      exact floatBin_ok hpp hq hp hl h t
    · cases h
  · have ex := str_rep hx
    have ey := str_rep hy
    subst ex; subst ey
    exact go (by cases op <;> rfl) (strBin_ok hp hl h t)
  · have ex := bool_rep hx
    have ey := bool_rep hy
    subst ex; subst ey
    refine go (by cases op <;> rfl) ?_
    split at h
    · rename_i ht; exact eqBool_run hp hl ht h
    · cases h
  · rename_i xs ys
    simp only [SV.rep] at hx hy
    obtain ⟨vx, rfl, hvx⟩ := hx
    obtain ⟨vy, rfl, hvy⟩ := hy
    split at h
    · cases h
    · rename_i q hq
      obtain ⟨h1, h2⟩ := eqArr_runD hq hvx hvy 9998 w
      refine go (run_eqGuard_agg _ _ _ _ _ _ _ h2) ?_
      split at h
      · refine .val (v := .bool (q.den E).toB) hl hp ?_ (rep_bool rfl) h
        simp only [binOp, Op.equal, Sem.run_bind]
        rw [show Op.maxDepth = 9998 + 1 + 1 from rfl, h1]
        rfl
      · refine .val (v := .bool (!(q.den E).toB)) hl hp ?_ (rep_bool (by rw [mkNot_den])) h
        simp only [binOp, Op.equal, Sem.run_bind]
        rw [show Op.maxDepth = 9998 + 1 + 1 from rfl, h1]
        rfl
      · cases h
  · rename_i x0 h0
    simp only [SV.rep] at hy
    subst hy
    refine go ?_ (nilEqS_ok hx hp hl h)
    have hn : ∃ b, isNilS x = some b := by
      unfold nilEqS at h
      split at h
      · rename_i hb; exact ⟨_, hb⟩
      · cases h
    obtain ⟨b, hb⟩ := hn
    obtain ⟨s, n, c, rfl, _⟩ := isNilS_rep hx hb
    cases op <;> rfl
  · cases h

theorem unS_ok {op : UnOp} {x : SV} {vx : Value} (hx : SV.rep E β x vx) (hp : PcOk E pc) (hl : m.nxt ≤ m.lim)
    (h : (unS m pc op x).sel E = some r) : OpOk P E β m.nxt m.lim w (Op.unary op vx) r := by
  unfold unS at h
  split at h
  · have ex := bool_rep hx
    subst ex
    exact .val hl hp rfl (rep_bool (by rw [mkNot_den])) h
  · have ex := int_rep hx
    subst ex
    exact .val hl hp rfl (rep_int (by rw [mkOp_den]; rfl)) h
  · obtain ⟨p, rfl, hpp⟩ := float_rep hx
    refine .valF hl hp ⟨_, w, rfl, ?_, .inl rfl⟩ h
    rw [mkOp_den, F.neg_canon, hpp]; rfl
  · cases h

theorem convS_ok {s d : TypeId} {x : SV} {vx : Value} (hx : SV.rep E β x vx) (hp : PcOk E pc) (hl : m.nxt ≤ m.lim)
    (h : (convS P m pc s d x).sel E = some r) : OpOk P E β m.nxt m.lim w (convert s d vx) r := by
  unfold convS at h
  split at h
  · rename_i us k k' a hs hd
    have ex := int_rep hx
    subst ex
    refine .val (v := .int k (k.wrap (a.den E).toI)) hl hp ?_ (rep_int (wrapT_den hp k a).symm) h
    simp only [convert, Sem.run_bind, run_underlying hs, run_underlying hd, Result.andThen_ok]
    cases us <;> rfl
  · rename_i us k k' a hs hd
    have ex := int_rep hx
    subst ex
    refine .valF hl hp ⟨k.nearest (a.den E).toI, w, ?_, ?_, .inl rfl⟩ h
    · simp only [convert, Sem.run_bind, run_underlying hs, run_underlying hd, Result.andThen_ok]
      cases us <;> rfl
    · rw [mkOp_den]; exact canon_write k (.number (decide ((a.den E).toI < 0)) (a.den E).toI.natAbs 0) rfl
  · rename_i us k s' a hs hd
    obtain ⟨p, rfl, hpp⟩ := float_rep hx
    obtain ⟨pc', hp', h⟩ := fork_sel hp h
    rcases h with ⟨hz, h⟩ | ⟨_, h⟩
    · rw [mkOp_den] at hz
      have hz' : F.toIntOk s' k (canon s' p) = true := by rw [hpp]; exact hz
      have hnn := toInt_canon s' p k hz'
      have hpc := canon_not s' p hnn
      rw [hpc] at hz' hpp
      unfold F.toIntOk at hz'
      split at hz'
      · rename_i n hn
        simp only [Bool.and_eq_true] at hz'
        have b1 : k.min ≤ n := of_decide_eq_true hz'.1
        have b2 : n ≤ k.max := of_decide_eq_true hz'.2
        refine .val (v := .int k n) hl hp' ?_ (rep_int ?_) h
        · simp only [convert, Sem.run_bind, run_underlying hs, run_underlying hd, Result.andThen_ok]
          cases us <;> simp [Conv.floatToInt, hn, b1, b2]
        · rw [mkOp_den]; simp only [Opc.den, Sc.toI_i, F.toInt]; rw [← hpp, hn]; rfl
      · cases hz'
    · cases h
  · rename_i us k s' a hs hd
    obtain ⟨p, rfl, hpp⟩ := float_rep hx
    have hc : (convert s d (.float s' p)).run P w = (Conv.floatToFloat s' p k).run P w := by
      simp only [convert, Sem.run_bind, run_underlying hs, run_underlying hd, Result.andThen_ok]
    split at h
    · rename_i hk
      have := kf_inj (Nat.eq_of_beq_eq_true hk)
      subst this
      refine .val (v := .float s' p) hl hp ?_ ?_ h
      · rw [hc]; simp [Conv.floatToFloat]
      · simp only [SV.rep, SK.rep]; exact ⟨p, rfl, hpp⟩
    · rename_i hk
      have hne : s' ≠ k := by rintro rfl; simp at hk
      split at h
      · rename_i hw
        obtain ⟨z, w', h1, h2, h3⟩ := conv_run (P := P) w s' k p hne (convOk_widens s' k (by cases s' <;> cases k <;> first | rfl | cases hw) _)
        exact .valF hl hp ⟨z, w', hc.trans h1, by rw [h2, mkOp_den, hpp]; rfl, h3⟩ h
      · obtain ⟨pc', hp', h⟩ := fork_sel hp h
        rcases h with ⟨hz, h⟩ | ⟨_, h⟩
        · rw [mkOp_den] at hz
          obtain ⟨z, w', h1, h2, h3⟩ := conv_run (P := P) w s' k p hne (by rw [hpp]; exact hz)
          exact .valF hl hp' ⟨z, w', hc.trans h1, by rw [h2, mkOp_den, hpp]; rfl, h3⟩ h
        · cases h
  · rename_i us a hs hd
    have ex := str_rep hx
    subst ex
    refine .val hl hp ?_ hx h
    simp only [convert, Sem.run_bind, run_underlying hs, run_underlying hd, Result.andThen_ok]
    cases us <;> rfl
  · cases h

end
end Go.Sx
set_option linter.unusedVariables false
set_option linter.unusedSimpArgs false
noncomputable section
namespace Go.Sx
open Go Go.RowKit

section
variable {P : Program} {E : Env} {β : Pl} {m : Mm} {w : World} {pc : PC} {r : Res}

theorem enumI_sel {α : Type} {t : Tm} {f : PC → Nat → Out α} {a : α} : ∀ (k i : Nat) {pc : PC}, PcOk E pc → (i : Int) ≤ (t.den E).toI → (t.den E).toI ≤ (i + k : Nat) →
    (enumI pc t f i k).sel E = some a → ∃ pc' j, PcOk E pc' ∧ (t.den E).toI = (j : Nat) ∧ (f pc' j).sel E = some a
  | 0, i, pc, hp, h1, h2, h => by
    have he : (t.den E).toI = (i : Nat) := by omega
    exact ⟨_, i, hp.cons (by simp [Tm.den, Opc.den, he]), he, h⟩
  | k + 1, i, pc, hp, h1, h2, h => by
    simp only [enumI] at h
    obtain ⟨pc', hp', h⟩ := fork_sel hp h
    rcases h with ⟨hz, h⟩ | ⟨hz, h⟩
    · have he : (t.den E).toI = (i : Nat) := of_decide_eq_true hz
      exact ⟨pc', i, hp', he, h⟩
    · have he : ¬ (t.den E).toI = (i : Nat) := of_decide_eq_false hz
      exact enumI_sel k (i + 1) hp' (by omega) (by omega) h

theorem pickE_ok (hp : PcOk E pc) : ∀ {t u : Tm} {a b : Nat}, pickE pc t = some (u, a, b) → (a : Int) ≤ (u.den E).toI ∧ (u.den E).toI ≤ (b : Nat) := by
  intro t
  induction t with
  | op o x y ihx ihy =>
    intro u a b h
    unfold pickE at h
    split at h
    · rename_i h1 h2 _
      cases h
      exact ⟨loB_ok hp h1, hiB_ok hp h2⟩
    · simp only at h
      split at h
      · rename_i z hz; cases h; exact ihx hz
      · exact ihy h
  | _ =>
    intro u a b h
    unfold pickE at h
    split at h
    · rename_i h1 h2 _
      cases h
      exact ⟨loB_ok hp h1, hiB_ok hp h2⟩
    · cases h

theorem idx_sel {α : Type} {n : Nat} {f : PC → Nat → Out α} {a : α} : ∀ (fuel : Nat) {pc : PC} {t : Tm}, PcOk E pc → (idx n f fuel pc t).sel E = some a →
    ∃ pc' i, PcOk E pc' ∧ i < n ∧ (t.den E).toI = (i : Nat) ∧ (f pc' i).sel E = some a
  | 0, _, _, _, h => by cases h
  | fuel + 1, pc, t, hp, h => by
    simp only [idx] at h
    split at h
    · rename_i i hi
      split at h
      · rename_i hlt
        exact ⟨pc, i, hp, by simpa [Nat.blt_eq] using hlt, litI_ok hp hi, h⟩
      · cases h
    · cases h
    · split at h
      · rename_i c x y
        obtain ⟨pc', hp', h⟩ := fork_sel hp h
        rcases h with ⟨hz, h⟩ | ⟨hz, h⟩
        · obtain ⟨pc2, i, h1, h2, h3, h4⟩ := idx_sel fuel hp' h
          exact ⟨pc2, i, h1, h2, by simp only [Tm.den, hz, if_true]; exact h3, h4⟩
        · obtain ⟨pc2, i, h1, h2, h3, h4⟩ := idx_sel fuel hp' h
          exact ⟨pc2, i, h1, h2, by simp only [Tm.den, hz, Bool.false_eq_true, if_false]; exact h3, h4⟩
      · split at h
        · rename_i u x y hpk
          split at h
          · rename_i hle
            obtain ⟨b1, b2⟩ := pickE_ok hp hpk
            have hle' : x ≤ y := Nat.le_of_ble_eq_true hle
            obtain ⟨pc', j, hp', _, h'⟩ := enumI_sel (y - x) x hp b1 (by rw [Nat.add_sub_cancel' hle']; exact b2) h
            exact idx_sel fuel hp' h'
          · cases h
        · cases h

/-! Literals of structs and arrays -/
theorem fold_lay (o : Nat) : ∀ (vs : List Value) (k : Nat) (arr : Array Value), o + k + vs.length ≤ arr.size →
    ((vs.zipIdx k).foldl (fun cs p => cs.setIfInBounds (o + p.2) p.1) arr).toList = arr.toList.take (o + k) ++ vs ++ arr.toList.drop (o + k + vs.length)
  | [], k, arr, _ => by simp
  | v :: r, k, arr, h => by
    simp only [List.length_cons] at h
    simp only [List.zipIdx_cons, List.foldl_cons]
    rw [fold_lay o r (k + 1) (arr.setIfInBounds (o + k) v) (by simp; omega)]
    simp only [Array.toList_setIfInBounds, List.length_cons]
    have h1 : (arr.toList.set (o + k) v).take (o + (k + 1)) = arr.toList.take (o + k) ++ [v] := by
      rw [← Nat.add_assoc, List.take_succ_eq_append_getElem (by simp; omega)]
      simp [List.take_set_of_le]
    have h2 : (arr.toList.set (o + k) v).drop (o + (k + 1) + r.length) = arr.toList.drop (o + k + (r.length + 1)) := by
      rw [List.drop_set_of_lt (by omega)]
      congr 1
      omega
    rw [h1, h2]
    simp

theorem lay_rep {cs xs : List SV} {vs us : List Value} (h : SV.reps E β cs vs) (k : SV.reps E β xs us) (o : Nat) :
    SV.reps E β (lay cs o xs) (vs.take o ++ us ++ vs.drop (o + us.length)) := by
  unfold lay
  rw [reps_length k]
  exact reps_append (reps_append (reps_take h o) k) (reps_drop h _)

theorem fill_run {size : Nat → Option (Nat × Nat)} {ev : Operand → SV} {ρ : Operand → Value} (hev : ∀ x, SV.rep E β (ev x) (ρ x)) :
    ∀ (ps : List (Nat × Operand)) {cs out : List SV} {arr : Array Value}, SV.reps E β cs arr.toList → (∀ v ∈ arr.toList, v.oneCell' = true) →
      fillS size cs (ps.map fun p => (p.1, ev p.2)) = some out →
      ∃ arr', Instr.fill size arr (ps.map fun p => (p.1, ρ p.2)) = some arr' ∧ SV.reps E β out arr'.toList ∧ (∀ v ∈ arr'.toList, v.oneCell' = true)
  | [], cs, out, arr, hr, h1, h => by
    simp only [List.map_nil, fillS, Option.some.injEq] at h
    subst h
    exact ⟨arr, rfl, hr, h1⟩
  | (i, x) :: ps, cs, out, arr, hr, h1, h => by
    simp only [List.map_cons, fillS] at h
    split at h
    · rename_i o n xs hsz hcs
      split at h
      · rename_i hn hfit
        obtain ⟨hc, hc1⟩ := cells_rep hcs (hev x)
        have e1 : (ρ x).cells.size = n := by
          have := reps_length hc
          rw [Array.length_toList] at this
          rw [this]; exact Nat.eq_of_beq_eq_true hn
        have e2 := reps_length hr
        rw [Array.length_toList] at e2
        have hxl := reps_length hc
        rw [Array.length_toList] at hxl
        have hle : o + (ρ x).cells.size ≤ arr.size := by
          have := Nat.le_of_ble_eq_true hfit
          omega
        have hfold : ((ρ x).cells.zipIdx.foldl (fun cs p => cs.setIfInBounds (o + p.2) p.1) arr).toList = arr.toList.take o ++ (ρ x).cells.toList ++ arr.toList.drop (o + (ρ x).cells.toList.length) := by
          have := fold_lay o (ρ x).cells.toList 0 arr (by simpa using hle)
          rw [← Array.foldl_toList, Array.toList_zipIdx]
          simpa using this
        have hl := lay_rep hr hc o
        have ih := fill_run (size := size) (ev := ev) (ρ := ρ) hev ps (cs := lay cs o xs) (out := out) (arr := (ρ x).cells.zipIdx.foldl (fun cs p => cs.setIfInBounds (o + p.2) p.1) arr)
          (by rw [hfold]; exact hl) (by
            rw [hfold]
            intro v hv
            rcases List.mem_append.1 hv with hv | hv
            · rcases List.mem_append.1 hv with hv | hv
              · exact h1 v (List.mem_of_mem_take hv)
              · exact hc1 v hv
            · exact h1 v (List.mem_of_mem_drop hv)) h
        obtain ⟨arr', h3, h4⟩ := ih
        refine ⟨arr', ?_, h4⟩
        simp only [List.map_cons, Instr.fill, hsz]
        rw [if_neg (by simp [e1]; omega)]
        exact h3
      · cases h
    · cases h


theorem fieldPlaces_run : ∀ (fs : List Field) {pl : List (Nat × Nat)}, fieldPlaces P fs = some pl → ∀ w, (fs.mapM (fun f => do pure (f.offset, ← sizeOf f.type) : Field → Sem (Nat × Nat))).run P w = .ok pl w
  | [], pl, h, w => by cases h; rfl
  | f :: r, pl, h, w => by
    simp only [fieldPlaces] at h
    split at h
    · rename_i n x hn hx
      cases h
      have ih := fieldPlaces_run r hx w
      simp only [List.mapM_cons, Sem.run_bind, szT_run hn, Result.andThen_ok, Sem.run_pure, ih]
    · cases h

theorem rep_zero {z : List SV} {vz : Array Value} (hz : SV.reps E β z vz.toList) (hpos : 0 < z.length) : ∀ (n : Nat), SV.reps E β (rep n z) (((Array.range (n * z.length)).map (fun i => vz[i % vz.size]!)).toList) := by
  have hlen : vz.size = z.length := by have := reps_length hz; simpa using this
  intro n
  have key : ∀ n, (((Array.range (n * z.length)).map (fun i => vz[i % vz.size]!)).toList) = (List.replicate n vz.toList).flatten := by
    intro n
    induction n with
    | zero => simp
    | succ n ih =>
      rw [List.replicate_succ', List.flatten_append, ← ih]
      simp only [Array.toList_map, Array.toList_range, List.flatten_singleton, Nat.succ_mul, List.range_add, List.map_append, List.map_map]
      congr 1
      apply List.ext_getElem?
      intro i
      simp only [List.getElem?_map, Array.getElem?_toList]
      by_cases hi : i < z.length
      · have hm : (n * z.length + i) % vz.size = i := by rw [hlen, Nat.mul_comm, Nat.mul_add_mod, Nat.mod_eq_of_lt hi]
        simp only [List.getElem?_range, hi, if_true, Option.map_some, Function.comp, hm]
        rw [getElem!_pos vz i (by omega)]
        simp [hlen, hi]
      · simp [hi, hlen]
  rw [key]
  induction n with
  | zero => simp [rep]
  | succ n ih =>
    simp only [rep, List.replicate_succ, List.flatten_cons]
    exact reps_append hz ih

/-- What is shown of an operation without a call, in the machine's own words. -/
def OpOkN (P : Program) (E : Env) (β : Pl) (n l : Nat) (w : World) (s : Sem Next) (r : Res) : Prop :=
  PcOk E r.pc ∧ r.nxt ≤ l ∧ ∃ v w' β', s.run P w = .ok (.value v) w' ∧ SV.rep E β' r.v v ∧ Step E β β' w w' n r.nxt r.nb
theorem OpOk.next {n l : Nat} {s : Sem Value} (h : OpOk P E β n l w s r) : OpOkN P E β n l w (do pure (.value (← s))) r := by
  obtain ⟨h1, h2, v, w', β', h3, h4, h5⟩ := h
  exact ⟨h1, h2, v, w', β', by simp [h3], h4, h5⟩

theorem newB_ok {s : Sem Value} {cs : List SV} {f : Nat → SV} {arr : Array Value} {e : TypeId} {v : Value} (cap : Nat) (hf : Fresh β m.nxt m.lim) (hp : PcOk E pc)
    (hr : SV.reps E β cs arr.toList) (h1 : ∀ v ∈ arr.toList, v.oneCell' = true) (hs : s.run P w = .ok v (w.alloc (.cells arr e)))
    (hv : ∀ β' : Pl, β' m.nxt = some ⟨w.heap.size, 0, cap, []⟩ → SV.rep E β' (f m.nxt) v) (h : (newB m pc cs f).sel E = some r) : OpOk P E β m.nxt m.lim w s r := by
  unfold newB at h
  split at h
  · cases h
  · rename_i hlt
    simp only [Out.sel, Option.some.injEq] at h
    subst h
    have hlt' : m.nxt < m.lim := by
      rcases Nat.lt_or_ge m.nxt m.lim with h | h
      · exact h
      · rw [Nat.ble_eq_true_of_le h] at hlt; cases hlt
    exact ⟨hp, hlt', v, _, upd β m.nxt ⟨w.heap.size, 0, cap, []⟩, hs, hv _ (by simp [upd]), step_new hf hlt' e cap hr h1⟩

theorem newE_ok {s : Sem Value} {cs : List SV} {arr : Array Value} {e size : Nat} (hf : Fresh β m.nxt m.lim) (hp : PcOk E pc)
    (hr : SV.reps E β cs arr.toList) (hs : s.run P w = .ok (.slice (some ⟨w.heap.size, 0, none⟩) 0 0) (w.alloc (.cells arr e)))
    (h : (newE m pc e size cs).sel E = some r) : OpOk P E β m.nxt m.lim w s r := by
  unfold newE at h
  split at h
  · rename_i hlt
    simp only [Out.sel, Option.some.injEq] at h
    subst h
    have hlt' : m.nxt < m.lim := by
      rcases Nat.lt_or_ge m.nxt m.lim with h | h
      · exact h
      · rw [Nat.ble_eq_true_of_le h] at hlt; cases hlt
    simp only [reps_nil] at hr
    have hsz : arr.size = 0 := by rw [← Array.length_toList, hr]; rfl
    exact ⟨hp, hlt', _, _, upd β m.nxt ⟨w.heap.size, 0, 0, []⟩, hs, by simp only [SV.rep]; exact ⟨⟨w.heap.size, 0, 0, []⟩, by simp [upd], rfl, rfl, rfl⟩,
      step_newR hf hlt' e 0 (some (e, size, 0)) (by simp [hr]) (fun v hv => by rw [hr] at hv; cases hv) ⟨rfl, by simp [hsz], Nat.le_refl _, Nat.zero_le _, by simp⟩ (fun _ _ _ => rfl)⟩
  · cases h

theorem litNat_rep {s : SV} {n : Nat} {v : Value} (h : litNat s = some n) (hr : SV.rep E β s v) : ∃ k, v = .int k (n : Nat) := by
  unfold litNat at h
  split at h
  · cases h; exact ⟨_, int_rep hr⟩
  · cases h

theorem bound_run {ev : Operand → SV} {ρ : Operand → Value} (hev : ∀ x, SV.rep E β (ev x) (ρ x)) {x : Option Operand} {d n : Nat} (h : bound ev x d = some n) :
    (x = none ∧ n = d) ∨ ∃ y k, x = some y ∧ ρ y = .int k (n : Nat) := by
  unfold bound at h
  split at h
  · cases h; exact .inl ⟨rfl, rfl⟩
  · rename_i y
    obtain ⟨k, hk⟩ := litNat_rep h (hev y)
    exact .inr ⟨y, k, rfl, hk⟩

theorem sliceBounds_run {ev : Operand → SV} {ρ : Operand → Value} (hev : ∀ x, SV.rep E β (ev x) (ρ x)) {lo hi : Option Operand} {n l h c : Nat} (isS : Bool)
    (hl : bound ev lo 0 = some l) (hh : bound ev hi n = some h) (h1 : l ≤ h) (h2 : h ≤ c) (w : World) :
    (Instr.sliceBounds isS n c (lo.map ρ) (hi.map ρ) none).run P w = .ok (l, h, c) w := by
  have sb : ∀ (k : IntKind) (i y : Nat) (code : BoundsCode), i ≤ y → (Instr.sliceBound (.int k (i : Nat)) y code).run P w = .ok i w := by
    intro k i y code hle
    simp [Instr.sliceBound, asIntOf, hle]
  unfold Instr.sliceBounds
  rcases bound_run hev hl with ⟨rfl, rfl⟩ | ⟨x, k, rfl, hx⟩ <;> rcases bound_run hev hh with ⟨rfl, rfl⟩ | ⟨y, k', rfl, hy⟩
  · simp
  · simp [hy, sb _ _ _ _ h2]
  · simp [hx, sb _ _ _ _ h1]
  · simp [hx, hy, sb _ _ _ _ h1, sb _ _ _ _ h2]

theorem sliceS_ok {t : TypeId} {x : Operand} {ev : Operand → SV} {ρ : Operand → Value} (hev : ∀ x, SV.rep E β (ev x) (ρ x)) {lo hi : Option Operand} {j o n : Nat} {e : TypeId}
    (hb : idxBase P t (ev x) = some (j, o, n, e)) (hp : PcOk E pc) (hl : m.nxt ≤ m.lim)
    (h : (sliceS P m pc t (ev x) (bound ev lo 0) (bound ev hi n)).sel E = some r) :
    OpOk P E β m.nxt m.lim w (Instr.sliceAt t (ρ x) (lo.map ρ) (hi.map ρ) none) r := by
  have hx := hev x
  unfold sliceS at h
  split at h
  · rename_i n' e' j' o' l h' ht hex hlo hhi
    rw [hex] at hx hb
    simp only [idxBase, ht, Option.some.injEq, Prod.mk.injEq] at hb
    obtain ⟨rfl, rfl, rfl, rfl⟩ := hb
    simp only [SV.rep] at hx
    obtain ⟨b, hbj, hv⟩ := hx
    split at h
    · rename_i s hs h1 h2 h3
      have h1' := Nat.le_of_ble_eq_true h1
      have h2' := Nat.le_of_ble_eq_true h2
      have h3' : l < n' := by simpa [Nat.blt_eq] using h3
      have hr := sliceBounds_run (P := P) hev false hlo hhi h1' h2' w
      refine .val (v := .slice (some ⟨b.blk, b.off + (o' + l * s), none⟩) (h' - l) (n' - l)) hl hp ?_ ?_ h
      · simp only [Instr.sliceAt, Sem.run_bind, run_underlying ht, Result.andThen_ok, hv, Instr.sureAddr, Sem.run_pure, hr, szT_run hs]
        rw [if_neg (by omega), add_at, Nat.add_assoc]
      · simp only [SV.rep]
        exact ⟨b, _, hbj, rfl, by omega⟩
    · cases h
  · rename_i e' j' o' n' l h' ht hex hlo hhi
    rw [hex] at hx hb
    simp only [idxBase, ht, Option.some.injEq, Prod.mk.injEq] at hb
    obtain ⟨rfl, rfl, rfl, rfl⟩ := hb
    simp only [SV.rep] at hx
    obtain ⟨b, c, hbj, hv, hc⟩ := hx
    split at h
    · rename_i s hs h1 h2 h3
      have h1' := Nat.le_of_ble_eq_true h1
      have h2' := Nat.le_of_ble_eq_true h2
      have h3' : l < n' := by simpa [Nat.blt_eq] using h3
      have hr := sliceBounds_run (P := P) (c := c) hev true hlo hhi h1' (by omega) w
      refine .val (v := .slice (some ⟨b.blk, b.off + (o' + l * s), none⟩) (h' - l) (c - l)) hl hp ?_ ?_ h
      · simp only [Instr.sliceAt, Sem.run_bind, run_underlying ht, Result.andThen_ok, hv, Instr.slice, hr, szT_run hs]
        rw [if_neg (by omega)]
        simp only [Option.map_some, add_at, Nat.add_assoc]
        rfl
      · simp only [SV.rep]
        exact ⟨b, _, hbj, rfl, by omega⟩
    · cases h
  · cases h

end
end Go.Sx
set_option linter.unusedVariables false
set_option linter.unusedSimpArgs false
noncomputable section
namespace Go.Sx
open Go Go.RowKit

section
variable {P : Program} {E : Env} {β : Pl} {m : Mm} {w : World} {pc : PC} {r : Res}

theorem fieldAt_run {t : TypeId} {fs : Array Field} {f : Nat} {fd : Field} {n b o : Nat} (ht : P.underlying t = some (.struct fs)) (hf : nth? fs.toList f = some fd) (hn : szT P fd.type = some (n + 1)) (w : World) :
    (Instr.fieldAt t (.pointer (some ⟨b, o, none⟩)) f).run P w = .ok (.pointer (some ⟨b, o + fd.offset, none⟩)) w := by
  rw [nth?_get, Array.getElem?_toList] at hf
  simp [Instr.fieldAt, run_underlying ht, hf, Instr.sureAddr, fieldPlace, szT_run hn, add_at]

theorem indexAt_run {t : TypeId} {x : SV} {vx : Value} {j o n : Nat} {e : TypeId} (hb : idxBase P t x = some (j, o, n, e)) (hx : SV.rep E β x vx) {s i : Nat} (hs : szT P e = some s) (hi : i < n) (k : IntKind) (w : World) :
    ∃ b, β j = some b ∧ (Instr.indexAt t vx (.int k (i : Nat))).run P w = .ok (.pointer (some ⟨b.blk, b.off + (o + i * s), none⟩)) w := by
  unfold idxBase at hb
  have hpos : (0 : Int) ≤ (i : Nat) := by omega
  have hlt : ((i : Nat) : Int) < (n : Nat) := by omega
  split at hb <;> simp only [Option.some.injEq, Prod.mk.injEq, reduceCtorEq] at hb
  · rename_i n' e' j' o' ht
    obtain ⟨rfl, rfl, rfl, rfl⟩ := hb
    simp only [SV.rep] at hx
    obtain ⟨b, hbj, rfl⟩ := hx
    refine ⟨b, hbj, ?_⟩
    simp [Instr.indexAt, asIntOf, run_underlying ht, Instr.sureAddr, szT_run hs, hi, add_at, Nat.add_assoc]
  · rename_i e' j' o' n' ht
    obtain ⟨rfl, rfl, rfl, rfl⟩ := hb
    simp only [SV.rep] at hx
    obtain ⟨b, c, hbj, rfl, _⟩ := hx
    refine ⟨b, hbj, ?_⟩
    simp [Instr.indexAt, asIntOf, run_underlying ht, szT_run hs, hi, add_at, Nat.add_assoc]
  · rename_i e' j' n' ht
    obtain ⟨rfl, rfl, rfl, rfl⟩ := hb
    simp only [SV.rep] at hx
    obtain ⟨b, hbj, h0, rfl, _⟩ := hx
    refine ⟨b, hbj, ?_⟩
    simp [Instr.indexAt, asIntOf, run_underlying ht, szT_run hs, hi, add_at, h0]

theorem int?_rep {s : SV} {k : IntKind} {t : Tm} (h : s.int? = some (k, t)) {v : Value} (hr : SV.rep E β s v) : v = .int k (t.den E).toI := by
  unfold SV.int? at h
  split at h
  · cases h; exact int_rep hr
  · cases h

/-- The address of an element of an open list. -/
theorem rowAddr_ok {t e : TypeId} {j : Nat} {ks : List SK} {n t' i : Tm} {b : Bs} {l c : Nat} {vx : Value} {kt : IntKind} (ht : P.underlying t = some (.slice e)) (hp : PcOk E pc) (hl : m.nxt ≤ m.lim) (hbj : β j = some b) (hv : vx = .slice (some ⟨b.blk, b.off, none⟩) l c) (hln : (l : Int) = (n.den E).toI) (hval : b.val = (t'.den E).list) (hrows : RowsOk (kScs ks) (l : Nat) b.val)
    (h : (rowAddr P m pc e j ks n t' i).sel E = some r) : OpOk P E β m.nxt m.lim w (Instr.indexAt t vx (.int kt (i.den E).toI)) r := by
  unfold rowAddr at h
  split at h
  · rename_i s hs
    split at h
    · rename_i hsk
      split at h
      · rename_i hlt
        split at h
        · rename_i hge
          have h0 : (0 : Int) ≤ (i.den E).toI := of_decide_eq_true (prove_ok 60 hp hge)
          have h1 : (i.den E).toI < (n.den E).toI := of_decide_eq_true (prove_ok 60 hp hlt)
          have hsk' : s = ks.length := Nat.eq_of_beq_eq_true hsk
          subst hsk'
          obtain ⟨k, hk⟩ : ∃ k : Nat, (k : Int) = (i.den E).toI := ⟨(i.den E).toI.toNat, by omega⟩
          have hkl : k < l := by omega
          refine .val (v := .pointer (some ⟨b.blk, b.off + (k * ks.length + 0), none⟩)) hl hp ?_ ?_ h
          · rw [hv, ← hk]
            simp [Instr.indexAt, asIntOf, run_underlying ht, szT_run hs, hkl, add_at]
          · simp only [SV.rep]
            exact ⟨b, k, l, hbj, hk, hkl, rfl, hval, hrows⟩
        · cases h
      · cases h
    · cases h
  · cases h
theorem strB_ok : ∀ {cs : List SV} {t : Tm} {vs : List Value}, strB cs = some t → SV.reps E β cs vs → ∃ ns : List Int, vs = ns.map (Value.int .u8) ∧ (t.den E).toS = ns.map (fun n => UInt8.ofNat n.toNat)
  | [], t, vs, h, hr => by
    simp only [strB, Option.some.injEq] at h
    subst h
    simp only [reps_nil] at hr
    subst hr
    exact ⟨[], rfl, rfl⟩
  | s :: r, t, vs, h, hr => by
    unfold strB at h
    split at h
    · rename_i heq; cases heq
    · rename_i t' r' heq
      cases heq
      split at h
      · rename_i u hu
        simp only [SV.reps] at hr
        obtain ⟨v, rest, rfl, h1, h2⟩ := hr
        obtain ⟨ns, e1, e2⟩ := strB_ok hu h2
        subst e1
        simp only [SV.rep, SK.rep] at h1
        subst h1
        refine ⟨(t'.den E).toI :: ns, rfl, ?_⟩
        split at h
        · cases h
          have : ns = [] := by
            have := reps_length h2
            simpa using this
          subst this
          rw [mkOp_den]; rfl
        · cases h
          rw [mkOp_den, mkOp_den]
          simp only [Opc.den, Sc.toS_s, e2]
          rfl
      · cases h
    · cases h
theorem foldl_push (ns : List Int) : ∀ (r : ByteArray), ns.foldl (fun r n => r.push (UInt8.ofNat n.toNat)) r = ⟨r.data ++ (ns.map fun n => UInt8.ofNat n.toNat).toArray⟩ := by
  induction ns with
  | nil => intro r; simp
  | cons n ns ih =>
    intro r
    simp only [List.foldl_cons]
    rw [ih]
    simp [ByteArray.push]
theorem bytesS_ok {s d : TypeId} {j o n : Nat} {vx : Value} (hm : Reads E β m.mem w) (hx : SV.rep E β (.sl j o n) vx) (hp : PcOk E pc) (hl : m.nxt ≤ m.lim)
    (h : (bytesS P m pc s d j o n).sel E = some r) : OpOk P E β m.nxt m.lim w (convert s d vx) r := by
  unfold bytesS at h
  split at h
  · rename_i e hs hd
    split at h
    · rename_i sb he hsb
      split at h
      · rename_i cs hcs
        split at h
        · rename_i t ht
          simp only [SV.rep] at hx
          obtain ⟨b, c, hb, rfl, _⟩ := hx
          obtain ⟨b', hb', hreads⟩ := hm j sb (find_mem hsb)
          rw [hb] at hb'; cases hb'
          obtain ⟨us, hload, hlen, hus, _, _⟩ := loadCells_run (P := P) hreads hcs
          obtain ⟨ns, e1, e2⟩ := strB_ok ht hus
          subst e1
          refine .val (v := .string (ns.foldl (fun r n => r.push (UInt8.ofNat n.toNat)) ByteArray.empty)) hl hp ?_ ?_ h
          · rw [run_convert_bytes_string w s d e _ n c hs he hd]
            exact run_bytesToString w _ n c ns hload
          · simp only [SV.rep, SK.rep, e2]
            rw [foldl_push]
            have he0 : ByteArray.empty.data = #[] := rfl
            rw [he0]
            simp
        · cases h
      · cases h
    · cases h
  · cases h
theorem opx_ok {o : Oper} {ev : Operand → SV} {ρ : Operand → Value} (hev : ∀ x, SV.rep E β (ev x) (ρ x)) (hm : Reads E β m.mem w) (hf : Fresh β m.nxt m.lim) (hl : m.nxt ≤ m.lim) (hp : PcOk E pc)
    (h : (opx P m pc ev o.op).sel E = some r) : OpOkN P E β m.nxt m.lim w (execOp ρ o) r := by
  obtain ⟨dst, op, ty, pos, after, guard⟩ := o
  simp only at h
  cases op <;> simp only [opx, oPick, oAlloc, oBox, oBuild, oBuildSlice, oMakeSlice, oLoad, oNil, oConv, oSlice, oFieldAddr, oField, oIndexAddr, oIndex, oExtract, oCall] at h <;> simp only [execOp]
  case move x =>
    simp only [val, Out.sel, Option.some.injEq] at h; subst h
    exact ⟨hp, hl, ρ x, w, β, rfl, hev x, Step.refl _⟩
  case assign x =>
    simp only [val, Out.sel, Option.some.injEq] at h; subst h
    exact ⟨hp, hl, ρ x, w, β, rfl, hev x, Step.refl _⟩
  case pick c a b =>
    have hc := hev c
    split at h
    · rename_i t hct
      rw [hct] at hc
      have hc' := bool_rep hc
      have key : ∀ (sv : SV) (pc' : PC), PcOk E pc' → SV.rep E β sv (if (t.den E).toB then ρ a else ρ b) → (val m pc' sv).sel E = some r →
          OpOkN P E β m.nxt m.lim w (do pure (.value (if ← asBool (ρ c) then ρ a else ρ b))) r := by
        intro sv pc' hp' hr h
        simp only [val, Out.sel, Option.some.injEq] at h; subst h
        exact ⟨hp', hl, _, w, β, by simp [hc', asBool], hr, Step.refl _⟩
      split at h
      · rename_i hd
        exact key _ _ hp (by rw [decB_ok hp t hd]; exact hev a) h
      · rename_i hd
        exact key _ _ hp (by rw [decB_ok hp t hd]; exact hev b) h
      · split at h
        · rename_i x y hxa hyb
          have ha := hev a
          have hb := hev b
          rw [hxa] at ha; rw [hyb] at hb
          have ha' := bool_rep ha
          have hb' := bool_rep hb
          refine key _ _ hp ?_ h
          rw [ha', hb']
          split
          · rename_i ht; exact rep_bool (by rw [mkIteB_den, if_pos ht])
          · rename_i ht; exact rep_bool (by rw [mkIteB_den, if_neg ht])
        · simp only [Out.sel] at h
          split at h
          · rename_i ht; exact key _ _ (addF_ok t hp ht) (by rw [if_pos ht]; exact hev a) h
          · rename_i ht
            have ht' : (t.den E).toB = false := by simpa using ht
            exact key _ _ (addF_ok t hp ht') (by rw [if_neg ht]; exact hev b) h
    · cases h
  case alloc e =>
    split at h
    · rename_i z hz
      split at h
      · rename_i cs hcs
        obtain ⟨v, hv, hrep⟩ := zeroT_run (E := E) (β := β) hz w
        obtain ⟨h1, h2⟩ := cells_rep hcs hrep
        refine OpOk.next (newB_ok (e := e) 0 hf hp h1 h2 (v := .pointer (some ⟨w.heap.size, 0, none⟩)) ?_ (fun β' hb => ?_) h)
        · simp [Instr.alloc, hv, newVar, newRow]
        · simp only [SV.rep]; exact ⟨_, hb, rfl⟩
      · cases h
    · cases h
  case box e x =>
    split at h
    · rename_i cs hcs
      obtain ⟨h1, h2⟩ := cells_rep hcs (hev x)
      refine OpOk.next (newB_ok (e := e) 0 hf hp h1 h2 (v := .pointer (some ⟨w.heap.size, 0, none⟩)) ?_ (fun β' hb => ?_) h)
      · simp [Instr.box, newVar, newRow]
      · simp only [SV.rep]; exact ⟨_, hb, rfl⟩
    · cases h
  case build t ps =>
    split at h
    · rename_i z hz
      obtain ⟨v, hv, hrep⟩ := zeroT_run (E := E) (β := β) hz w
      split at h
      · rename_i cs fs hcs hu
        obtain ⟨h1, h2⟩ := cells_rep hcs hrep
        split at h
        · rename_i pl hpl
          split at h
          · rename_i out hout
            obtain ⟨arr', h3, h4, _⟩ := fill_run (size := nth? pl) hev ps.toList h1 h2 hout
            have hps : (ps.map fun x => (x.1, ρ x.2)).toList = ps.toList.map fun p => (p.1, ρ p.2) := by simp
            have hmp : (fs.mapM (fun f => do pure (f.offset, ← sizeOf f.type) : Field → Sem (Nat × Nat))).run P w = .ok pl.toArray w := by
              rw [Array.mapM_eq_mapM_toList]
              have := fieldPlaces_run fs.toList hpl w
              simp only [Sem.run_map] 
              rw [this]
              rfl
            have hplace : (fun i => pl.toArray[i]?) = nth? pl := by
              funext i; rw [nth?_get]; simp
            refine OpOk.next (.val (v := .agg arr') hl hp ?_ ?_ h)
            · simp only [Instr.build, Sem.run_bind, hv, Result.andThen_ok, run_underlying hu, hmp, hplace, hps, h3]
              rfl
            · simp only [SV.rep]; exact ⟨_, rfl, h4⟩
          · cases h
        · cases h
      · rename_i cs n e hcs hu
        obtain ⟨h1, h2⟩ := cells_rep hcs hrep
        split at h
        · rename_i s hs
          split at h
          · rename_i out hout
            obtain ⟨arr', h3, h4, _⟩ := fill_run (size := fun i => some (i * s, s)) hev ps.toList h1 h2 hout
            have hps : (ps.map fun x => (x.1, ρ x.2)).toList = ps.toList.map fun p => (p.1, ρ p.2) := by simp
            refine OpOk.next (.val (v := .agg arr') hl hp ?_ ?_ h)
            · simp only [Instr.build, Sem.run_bind, hv, Result.andThen_ok, run_underlying hu, szT_run hs, hps, h3]
              rfl
            · simp only [SV.rep]; exact ⟨_, rfl, h4⟩
          · cases h
        · cases h
      · cases h
    · cases h
  case buildSlice t n ps =>
    split at h
    · rename_i e hu
      split at h
      · rename_i s z hs hz
        split at h
        · rename_i zs hzs
          split at h
          · rename_i cs hcs hlen hle hpos
            obtain ⟨v, hv, hrep⟩ := zeroT_run (E := E) (β := β) hz w
            obtain ⟨h1, h2⟩ := cells_rep hzs hrep
            have hlen' : zs.length = s := Nat.eq_of_beq_eq_true hlen
            have hspos : 0 < s := by
              rcases Nat.eq_zero_or_pos s with h0 | h0
              · rw [h0] at hpos; cases hpos
              · exact h0
            have hle' := Nat.le_of_ble_eq_true hle
            have hz2 := rep_zero h1 (by omega) n
            rw [hlen'] at hz2
            have hvz : v.cells.size = s := by have := reps_length h1; rw [Array.length_toList] at this; omega
            have hone : ∀ x ∈ ((Array.range (n * s)).map (fun i => v.cells[i % v.cells.size]!)).toList, x.oneCell' = true := by
              intro x hx
              simp only [Array.toList_map, List.mem_map] at hx
              obtain ⟨i, _, rfl⟩ := hx
              have hlt : i % v.cells.size < v.cells.size := Nat.mod_lt _ (by omega)
              rw [getElem!_pos v.cells _ hlt]
              exact h2 _ (by simp)
            obtain ⟨arr', h3, h4, h5⟩ := fill_run (size := fun i => some (i * s, s)) hev ps.toList hz2 hone hcs
            have hps : (ps.map fun x => (x.1, ρ x.2)).toList = ps.toList.map fun p => (p.1, ρ p.2) := by simp
            have hrun : (Instr.buildSlice t n (ps.map fun x => (x.1, ρ x.2))).run P w = .ok (.slice (some ⟨w.heap.size, 0, none⟩) n n) (w.alloc (.cells arr' e)) := by
              simp only [Instr.buildSlice, Sem.run_bind, run_underlying hu, Result.andThen_ok, szT_run hs]
              rw [Sem.run_ite, if_neg (by omega)]
              by_cases h0 : n * s = 0
              · have hn0 : n = 0 := by rcases Nat.mul_eq_zero.1 h0 with h | h <;> omega
                subst hn0
                simp only [Nat.zero_mul, if_true, Sem.run_bind, Sem.run_pure, Result.andThen_ok, hps]
                simp only [Nat.zero_mul] at h3
                have e0 : ((Array.range 0).map (fun i => (#[] : Array Value)[i % (#[] : Array Value).size]!)) = ((Array.range 0).map (fun i => v.cells[i % v.cells.size]!)) := by simp
                rw [e0, h3]
                simp [newRow]
              · simp only [if_neg h0, Sem.run_bind, hv, Result.andThen_ok, Sem.run_pure, hps, h3]
                simp [newRow]
            split at h
            · exact OpOk.next (newE_ok (e := e) hf hp h4 hrun h)
            · exact OpOk.next (newB_ok (e := e) 0 hf hp h4 h5 hrun (fun β' hb => by simp only [SV.rep]; exact ⟨_, _, hb, rfl, Nat.le_refl _⟩) h)
          · cases h
        · cases h
      · cases h
    · cases h
  case makeSlice t l c =>
    split at h
    · rename_i e n n' hu hl1 hc1
      split at h
      · rename_i i hnn hi
        split at h
        · rename_i z hz
          split at h
          · rename_i zs hzs
            split at h
            · rename_i hlen hle hpos
              have hnn' := Nat.eq_of_beq_eq_true hnn
              subst hnn'
              obtain ⟨k1, e1⟩ := litNat_rep hl1 (hev l)
              obtain ⟨k2, e2⟩ := litNat_rep hc1 (hev c)
              obtain ⟨h1, h2⟩ := cells_rep hzs (ofVal_rep (E := E) (β := β) z)
              have hlen' : zs.length = i.size := Nat.eq_of_beq_eq_true hlen
              have hspos : 0 < i.size := by
                rcases Nat.eq_zero_or_pos i.size with h0 | h0
                · rw [h0] at hpos; cases hpos
                · exact h0
              have hle' := Nat.le_of_ble_eq_true hle
              rw [Nat.mul_add, Nat.mul_add] at hle'
              have hz2 := rep_zero h1 (by omega) n
              rw [hlen'] at hz2
              have hvz : z.cells.size = i.size := by have := reps_length h1; rw [Array.length_toList] at this; omega
              have hone : ∀ x ∈ ((Array.range (n * i.size)).map (fun j => z.cells[j % z.cells.size]!)).toList, x.oneCell' = true := by
                intro x hx
                simp only [Array.toList_map, List.mem_map] at hx
                obtain ⟨j, _, rfl⟩ := hx
                have hlt : j % z.cells.size < z.cells.size := Nat.mod_lt _ (by omega)
                rw [getElem!_pos z.cells _ hlt]
                exact h2 _ (by simp)
              have hrun := run_makeSlice (P := P) (w := w) t e i z hu hi hz k1 k2 n n (by omega) (by omega) (by simp; omega) (by
                have hm : (i.bytes : Int) * (n : Int) = ((n * i.bytes : Nat) : Int) := by rw [Int.natCast_mul]; exact Int.mul_comm _ _
                rw [hm]; omega) (by omega)
              refine OpOk.next (newB_ok (e := e) 0 hf hp hz2 hone (v := .slice (some ⟨w.heap.size, 0, none⟩) n n) ?_ (fun β' hb => ?_) h)
              · rw [e1, e2, hrun]
                simp only [Int.toNat_natCast]
                rfl
              · simp only [SV.rep]; exact ⟨_, _, hb, rfl, Nat.le_refl _⟩
            · cases h
          · cases h
        · cases h
      · cases h
    · cases h
  case load t a =>
    have ha := hev a
    split at h
    · rename_i j ks t' i o hea
      rw [hea] at ha
      simp only [SV.rep] at ha
      obtain ⟨b, k, l, hbj, hk, hkl, hv, hval, hrows⟩ := ha
      split at h
      · rename_i sb hsb
        split at h
        · rename_i v hpart
          obtain ⟨b', hb', hr⟩ := hm j sb (find_mem hsb)
          rw [hbj] at hb'; cases hb'
          obtain ⟨u, hu, hrep⟩ := rowPart_run (P := P) hr hk hkl hval hrows hpart
          refine OpOk.next (.val (v := u) hl hp ?_ hrep h)
          simp [Instr.loadAt, hv, Instr.sureAddr, hu]
        · cases h
      · cases h
    · rename_i j o hea
      rw [hea] at ha
      simp only [SV.rep] at ha
      obtain ⟨b, hbj, hv⟩ := ha
      split at h
      · rename_i sb hsb
        split at h
        · rename_i v hpart
          obtain ⟨b', hb', hr⟩ := hm j sb (find_mem hsb)
          rw [hbj] at hb'; cases hb'
          obtain ⟨u, hu, hrep⟩ := loadVar_run (P := P) hr hpart
          refine OpOk.next (.val (v := u) hl hp ?_ hrep h)
          simp [Instr.loadAt, hv, Instr.sureAddr, hu]
        · cases h
      · cases h
    · cases h
  case nilCheck x =>
    have hx := hev x
    split at h
    · rename_i j o he
      rw [he] at hx
      have hx' := hx
      simp only [SV.rep] at hx
      obtain ⟨b, hbj, hv⟩ := hx
      simp only [val, Out.sel, Option.some.injEq] at h; subst h
      rw [hv] at hx' ⊢
      exact ⟨hp, hl, _, w, β, rfl, hx', Step.refl _⟩
    · rename_i f a c he
      rw [he] at hx
      have hx' := hx
      simp only [SV.rep] at hx
      obtain ⟨as, cs, hv, _, _⟩ := hx
      simp only [val, Out.sel, Option.some.injEq] at h; subst h
      rw [hv] at hx' ⊢
      exact ⟨hp, hl, _, w, β, rfl, hx', Step.refl _⟩
    · rename_i j ks t i o he
      rw [he] at hx
      have hx' := hx
      simp only [SV.rep] at hx
      obtain ⟨b, k, l, _, _, _, hv, _⟩ := hx
      simp only [val, Out.sel, Option.some.injEq] at h; subst h
      rw [hv] at hx' ⊢
      exact ⟨hp, hl, _, w, β, rfl, hx', Step.refl _⟩
    · cases h
  case binOp op t x y _ => exact OpOk.next (binS_ok x y (hev x) (hev y) hp hl h)
  case unOp op t x => exact OpOk.next (unS_ok (hev x) hp hl h)
  case convert s d x =>
    split at h
    · rename_i j o n he
      have hx := hev x
      rw [he] at hx
      exact OpOk.next (bytesS_ok hm hx hp hl h)
    · exact OpOk.next (convS_ok (hev x) hp hl h)
  case makeFunc f a c =>
    have reps_map : ∀ l : List Operand, SV.reps E β (l.map ev) (l.map ρ) := by
      intro l
      induction l with
      | nil => simp
      | cons x r ih => simp only [List.map_cons, reps_cons]; exact ⟨hev x, ih⟩
    refine OpOk.next (.val (v := .func f (a.map ρ) (c.map ρ)) hl hp rfl ?_ h)
    simp only [SV.rep]
    exact ⟨_, _, rfl, by simpa using reps_map a.toList, by simpa using reps_map c.toList⟩
  case slice t x lo hi mx =>
    cases mx with
    | none =>
      simp only at h
      split at h
      · rename_i j o n e hb
        exact OpOk.next (sliceS_ok hev hb hp hl h)
      · cases h
    | some _ => cases h
  case fieldAddr t x f =>
    have hx := hev x
    split at h
    · rename_i fs j o hu he
      rw [he] at hx
      simp only [SV.rep] at hx
      obtain ⟨b, hbj, hv⟩ := hx
      split at h
      · rename_i fd hfd
        split at h
        · rename_i n hn
          rw [hv]
          refine OpOk.next (.val hl hp (fieldAt_run hu hfd hn w) ?_ h)
          simp only [SV.rep]
          exact ⟨b, hbj, by rw [Nat.add_assoc]⟩
        · cases h
      · cases h
    · rename_i fs j ks t' i o hu he
      rw [he] at hx
      simp only [SV.rep] at hx
      obtain ⟨b, k, l, hbj, hk, hkl, hv, hval, hrows⟩ := hx
      split at h
      · rename_i fd hfd
        split at h
        · rename_i n hn
          rw [hv]
          refine OpOk.next (.val hl hp (fieldAt_run hu hfd hn w) ?_ h)
          simp only [SV.rep]
          exact ⟨b, k, l, hbj, hk, hkl, by rw [Nat.add_assoc, Nat.add_assoc], hval, hrows⟩
        · cases h
      · cases h
    · cases h
  case field t x f =>
    have hx := hev x
    split at h
    · rename_i fs cs hu he
      rw [he] at hx
      simp only [SV.rep] at hx
      obtain ⟨vs, hv, hvs⟩ := hx
      split at h
      · rename_i fd hfd
        split at h
        · rename_i u hpart
          obtain ⟨y, hy, hrep⟩ := partS_run hpart hvs w
          rw [nth?_get, Array.getElem?_toList] at hfd
          refine OpOk.next (.val (v := y) hl hp ?_ hrep h)
          simp [Instr.field, run_underlying hu, hfd, hv, asAgg, hy]
        · cases h
      · cases h
    · cases h
  case indexAddr t x ix =>
    split at h
    · rename_i e j ks n t' kt i hu he hi
      have hix := int?_rep hi (hev ix)
      have hx := hev x
      rw [he] at hx
      simp only [SV.rep] at hx
      obtain ⟨b, l, hbj, hv, _, _, hln, hval, hrows⟩ := hx
      rw [hix]
      exact OpOk.next (rowAddr_ok hu hp hl hbj hv hln hval hrows h)
    · rename_i n e j ks t' i' o kt i hu he hi
      have hix := int?_rep hi (hev ix)
      have hx := hev x
      rw [he] at hx
      simp only [SV.rep] at hx
      obtain ⟨b, k, l, hbj, hk, hkl, hv, hval, hrows⟩ := hx
      split at h
      · rename_i s hs
        obtain ⟨pc', q, hp', hlt, hq, h⟩ := idx_sel 6 hp h
        rw [hix, hq, hv]
        refine OpOk.next (.val (v := .pointer (some ⟨b.blk, b.off + (k * ks.length + (o + q * s)), none⟩)) hl hp' ?_ ?_ h)
        · simp [Instr.indexAt, asIntOf, run_underlying hu, Instr.sureAddr, szT_run hs, hlt, add_at, Nat.add_assoc]
        · simp only [SV.rep]
          exact ⟨b, k, l, hbj, hk, hkl, rfl, hval, hrows⟩
      · cases h
    split at h
    · rename_i j o n e kt i hb hi
      have hix := int?_rep hi (hev ix)
      split at h
      · rename_i s hs
        obtain ⟨pc', q, hp', hlt, hq, h⟩ := idx_sel 6 hp h
        obtain ⟨b, hbj, hrun⟩ := indexAt_run hb (hev x) hs hlt kt w
        rw [hix, hq]
        refine OpOk.next (.val hl hp' hrun ?_ h)
        simp only [SV.rep]
        exact ⟨b, hbj, rfl⟩
      · cases h
    · cases h
  case index t x ix =>
    split at h
    · rename_i n e cs kt i hu he hi
      have hix := int?_rep hi (hev ix)
      have hx := hev x
      rw [he] at hx
      simp only [SV.rep] at hx
      obtain ⟨vs, hv, hvs⟩ := hx
      split at h
      · rename_i s hs
        obtain ⟨pc', q, hp', hlt, hq, h⟩ := idx_sel 6 hp h
        split at h
        · rename_i u hpart
          obtain ⟨y, hy, hrep⟩ := partS_run hpart hvs w
          refine OpOk.next (.val (v := y) hl hp' ?_ hrep h)
          rw [hix, hq, hv]
          simp [Instr.index, asIntOf, run_underlying hu, hlt, szT_run hs, hy]
        · cases h
      · cases h
    · rename_i a kt i hu he hi
      have hix := int?_rep hi (hev ix)
      have hx := hev x
      rw [he] at hx
      have hv := str_rep hx
      obtain ⟨pc', hp', h⟩ := fork_sel hp h
      rcases h with ⟨hz, h⟩ | ⟨_, h⟩
      · obtain ⟨pc2, hp2, h⟩ := fork_sel hp' h
        rcases h with ⟨hz2, h⟩ | ⟨_, h⟩
        · rw [cmpI_den _ _ _ _ lei_self] at hz
          rw [cmpI_den _ _ _ _ lti_self, mkOp_den] at hz2
          have b1 : (0 : Int) ≤ (i.den E).toI := of_decide_eq_true hz
          have b2 : (i.den E).toI < ((a.den E).toS.length : Nat) := of_decide_eq_true hz2
          have hlt : (i.den E).toI.toNat < (a.den E).toS.length := by omega
          refine OpOk.next (.val (v := .int .u8 ((a.den E).toS.getD (i.den E).toI.toNat 0).toNat) hl hp2 ?_ (rep_int (by rw [mkOp_den]; rfl)) h)
          rw [hix, hv]
          have hget : (⟨(a.den E).toS.toArray⟩ : ByteArray)[(i.den E).toI.toNat]? = some ((a.den E).toS.getD (i.den E).toI.toNat 0) := by
            rw [getElem?_pos (⟨(a.den E).toS.toArray⟩ : ByteArray) _ (by simpa [ByteArray.size] using hlt)]
            congr 1
            show ((a.den E).toS.toArray)[(i.den E).toI.toNat]'(by simpa using hlt) = _
            simp [List.getD, hlt]
          simp only [Instr.index, asIntOf, Sem.run_bind, Sem.run_pure, Result.andThen_ok, run_underlying hu]
          rw [if_pos b1, hget]
          rfl
        · cases h
      · cases h
    · cases h
  case extract x i =>
    have hx := hev x
    split at h
    · rename_i vs he
      rw [he] at hx
      simp only [SV.rep] at hx
      obtain ⟨us, hv, hus⟩ := hx
      split at h
      · rename_i u hu
        rw [nth?_get] at hu
        obtain ⟨y, hy, hrep⟩ := reps_get hus hu
        rw [Array.getElem?_toList] at hy
        refine OpOk.next (.val (v := y) hl hp ?_ hrep h)
        simp [Instr.extract, hv, hy]
      · cases h
    · cases h
  case call c =>
    obtain ⟨callee, args, argTypes⟩ := c
    split at h
    · rename_i x t hc ha hat
      simp only at hc ha hat
      subst hc
      have ha' : args = #[x] := by rw [← Array.toArray_toList (xs := args), ha]
      have hat' : argTypes = #[t] := by rw [← Array.toArray_toList (xs := argTypes), hat]
      subst ha'; subst hat'
      have hx := hev x
      have go : ∀ {s : Sem Value}, s = Builtin.len_ #[t] ty #[ρ x] → OpOk P E β m.nxt m.lim w s r →
          OpOkN P E β m.nxt m.lim w (do let d ← resolve ρ { callee := .builtin .len, args := #[x], argTypes := #[t] } ty; invoke d.target d.args) r := by
        rintro s rfl ⟨h1, h2, v, w', β', h3, h4, h5⟩
        exact ⟨h1, h2, v, w', β', by simp [resolve, invoke, builtin, h3], h4, h5⟩
      refine go rfl ?_
      split at h
      · rename_i a hu he
        rw [he] at hx
        have hv := str_rep hx
        refine .val (v := goInt (a.den E).toS.length) hl hp ?_ (rep_int (by rw [mkOp_den]; rfl)) h
        have hsz : (⟨(a.den E).toS.toArray⟩ : ByteArray).size = (a.den E).toS.length := by simp only [ByteArray.size, List.size_toArray]
        simp [Builtin.len_, run_underlying hu, hv, hsz]
      · rename_i n e hu
        refine .val (v := goInt n) hl hp ?_ (rep_int rfl) h
        simp [Builtin.len_, run_underlying hu]
      · rename_i e j o n hu he
        rw [he] at hx
        simp only [SV.rep] at hx
        obtain ⟨b, c, _, hv, _⟩ := hx
        refine .val (v := goInt n) hl hp ?_ (rep_int rfl) h
        simp [Builtin.len_, run_underlying hu, hv]
      · rename_i e j n hu he
        rw [he] at hx
        simp only [SV.rep] at hx
        obtain ⟨b, _, _, hv, _⟩ := hx
        refine .val (v := goInt n) hl hp ?_ (rep_int rfl) h
        simp [Builtin.len_, run_underlying hu, hv]
      · rename_i e j n t' hu he
        rw [he] at hx
        simp only [SV.rep] at hx
        obtain ⟨b, l, c, _, hv, _, hn, _⟩ := hx
        refine .val (v := goInt l) hl hp ?_ (rep_int hn) h
        simp [Builtin.len_, run_underlying hu, hv]
      · rename_i e j ks n t' hu he
        rw [he] at hx
        simp only [SV.rep] at hx
        obtain ⟨b, l, _, hv, _, _, hn, _⟩ := hx
        refine .val (v := goInt l) hl hp ?_ (rep_int hn) h
        simp [Builtin.len_, run_underlying hu, hv]
      · rename_i e hu he
        rw [he] at hx
        simp only [SV.rep] at hx
        refine .val (v := goInt 0) hl hp ?_ (rep_int rfl) h
        simp [Builtin.len_, run_underlying hu, hx]
      · cases h
    · rename_i x y hc ha
      simp only at hc ha
      subst hc
      have ha' : args = #[x, y] := by rw [← Array.toArray_toList (xs := args), ha]
      subst ha'
      have hx := hev x
      have hy := hev y
      split at h
      · rename_i k a k' b he he2
        rw [he] at hx; rw [he2] at hy
        have hv := int_rep hx
        have hv2 := int_rep hy
        have go : OpOk P E β m.nxt m.lim w (Builtin.min_ argTypes ty #[ρ x, ρ y]) r → OpOkN P E β m.nxt m.lim w (do let d ← resolve ρ { callee := .builtin .min, args := #[x, y], argTypes := argTypes } ty; invoke d.target d.args) r := by
          rintro ⟨h1, h2, v, w', β', h3, h4, h5⟩
          exact ⟨h1, h2, v, w', β', by simp [resolve, invoke, builtin, h3], h4, h5⟩
        refine go (.val (v := .int k (if (b.den E).toI < (a.den E).toI then (b.den E).toI else (a.den E).toI)) hl hp ?_ (rep_int ?_) h)
        · simp [Builtin.min_, hv, hv2, Builtin.min2]
        · rw [mkIte_den, cmpI_den _ _ _ _ lti_self]
          simp only [Opc.den, Sc.toB_b, decide_eq_true_eq]
          split <;> rfl
      · cases h
    · cases h
  all_goals cases h

end
end Go.Sx
