/- The symbolic executor's single operations are sound. No condition. -/
import Derived.Test.YtfaamogbkekjcaaSxOp
import Derived.Test.YtfaamogbkekjcaaSxF
import Derived.Laws.StructEq
import Derived.Laws.IdiomCopy
set_option linter.unusedVariables false
set_option linter.unusedSimpArgs false
noncomputable section
namespace Go.Sx
open Go Go.RowKit

section
variable {P : Program} {E : Env} {β : Pl}

theorem one_rep {s : SV} {v : Value} (h : s.one = true) (hr : SV.rep E β s v) : v.oneCell' = true := by
  cases s <;> simp only [SV.one, Bool.false_eq_true] at h <;> simp only [SV.rep] at hr
  · rename_i k t; cases k <;> simp only [SK.rep] at hr <;> first | (subst hr; rfl) | (obtain ⟨x, rfl, _⟩ := hr; rfl)
  · obtain ⟨b, _, rfl⟩ := hr; rfl
  · subst hr; rfl
  · obtain ⟨b, c, _, rfl, _⟩ := hr; rfl
  · subst hr; rfl
  · obtain ⟨b, _, _, rfl, _⟩ := hr; rfl
  · obtain ⟨b, l, c, _, rfl, _⟩ := hr; rfl
  · obtain ⟨b, l, _, rfl, _⟩ := hr; rfl
  · obtain ⟨b, k, l, _, _, _, rfl, _⟩ := hr; rfl
  · obtain ⟨a, c, rfl, _⟩ := hr; rfl
  · subst hr; rfl
  · subst hr; rfl
theorem ones_rep : ∀ {ss : List SV} {vs : List Value}, ones ss = true → SV.reps E β ss vs → ∀ v ∈ vs, v.oneCell' = true
  | [], vs, _, hr, v, hv => by simp at hr; subst hr; cases hv
  | s :: r, vs, h, hr, v, hv => by
    simp only [ones] at h
    split at h
    · rename_i h1
      simp only [SV.reps] at hr
      obtain ⟨x, rest, rfl, hx, hrest⟩ := hr
      rcases List.mem_cons.1 hv with rfl | hv
      · exact one_rep h1 hx
      · exact ones_rep h hrest v hv
    · cases h
theorem one_cells {v : Value} (h : v.oneCell' = true) : v.cells = #[v] := by cases v <;> first | rfl | (simp [Value.oneCell'] at h)
theorem cells_rep {s : SV} {cs : List SV} {v : Value} (h : s.cells = some cs) (hr : SV.rep E β s v) :
    SV.reps E β cs v.cells.toList ∧ ∀ x ∈ v.cells.toList, x.oneCell' = true := by
  have single : ∀ {s : SV}, s.one = true → SV.rep E β s v → SV.reps E β [s] v.cells.toList ∧ ∀ x ∈ v.cells.toList, x.oneCell' = true := by
    intro s h1 hr
    have h2 := one_rep h1 hr
    rw [one_cells h2]
    exact ⟨by simpa using hr, fun x hx => by simp at hx; subst hx; exact h2⟩
  cases s <;> simp only [SV.cells, Option.some.injEq, reduceCtorEq] at h
  case agg cs' =>
    split at h
    · rename_i h1
      cases h
      simp only [SV.rep] at hr
      obtain ⟨vs, rfl, hv⟩ := hr
      exact ⟨hv, ones_rep h1 hv⟩
    · cases h
  all_goals (subst h; exact single rfl hr)

theorem ofCell_rep (v : Value) : SV.rep E β (ofCell v) v := by
  unfold ofCell
  split
  · simp [SV.rep, SK.rep, Tm.den]
  · simp [SV.rep, SK.rep, Tm.den]
  · split
    · simp [SV.rep]
    · rename_i hx
      simp only [SV.rep, SK.rep, Tm.den, Sc.toF_f]
      exact ⟨_, rfl, canon_not _ _ hx⟩
  all_goals simp [SV.rep, SK.rep, Tm.den]
theorem ofCells_rep (vs : List Value) : SV.reps E β (vs.map ofCell) vs := by
  induction vs with
  | nil => simp
  | cons v r ih => simp only [List.map_cons, reps_cons]; exact ⟨ofCell_rep v, ih⟩
theorem ofVal_rep (v : Value) : SV.rep E β (ofVal v) v := by
  unfold ofVal
  split
  · rename_i cs; simp only [SV.rep]; exact ⟨cs, rfl, ofCells_rep _⟩
  · rename_i cs; simp only [SV.rep]; exact ⟨cs, rfl, ofCells_rep _⟩
  · rename_i f a c
    split
    · rename_i ha hc
      simp only [SV.rep]
      exact ⟨a, c, rfl, by simp [ha], by simp [hc]⟩
    · simp [SV.rep]
  · exact ofCell_rep v

theorem evalO_rep {tm : List SV} {a : Act} (h : SV.reps E β tm a.tmps.toList) (x : Operand) : SV.rep E β (evalO tm x) (a.eval x) := by
  cases x with
  | tmp t =>
    simp only [evalO, kGet_eq, Act.eval]
    by_cases ht : t < tm.length
    · obtain ⟨v, hv, hr⟩ := reps_get h (List.getElem?_eq_getElem ht)
      have e1 : tm.getD t .un = tm[t] := by simp [List.getD, ht]
      have e2 : a.tmps.getD t undef = v := by
        rw [Array.getElem?_toList] at hv
        simp [Array.getD_eq_getD_getElem?, hv]
      rw [e1, e2]; exact hr
    · have e1 : tm.getD t .un = .un := by simp [List.getD, List.getElem?_eq_none (Nat.le_of_not_lt ht)]
      rw [e1]; simp [SV.rep]
  | const v => exact ofVal_rep v
  | global g => simp [evalO, SV.rep]
  | func f => simp [evalO, Act.eval, SV.rep]

/-! Types -/
theorem aggT_run {t : TypeId} {b : Bool} (h : aggT P t = some b) (w : World) : (isAgg t).run P w = .ok b w := by
  unfold aggT at h
  unfold isAgg
  split at h <;> cases h
  · rename_i hu; simp [run_underlying hu]
  · rename_i hu; simp [run_underlying hu]
  · rename_i d h1 h2 hu
    simp only [Sem.run_bind, run_underlying hu, Result.andThen_ok]
    cases d <;> first | rfl | (exact absurd hu (h1 _)) | (exact absurd hu (h2 _ _))
theorem szT_run {t : TypeId} {n : Nat} (h : szT P t = some n) (w : World) : (sizeOf t).run P w = .ok n w := by
  unfold szT at h
  split at h <;> cases h
  rename_i i hi
  simp [sizeOf, typeInfo, hi]
theorem zeroT_run {t : TypeId} {s : SV} (h : zeroT P t = some s) (w : World) : ∃ v, (zeroValue t).run P w = .ok v w ∧ SV.rep E β s v := by
  unfold zeroT at h
  split at h
  · rename_i i hi
    split at h <;> cases h
    rename_i v hv
    exact ⟨v, by simp [zeroValue, typeInfo, hi, hv], ofVal_rep v⟩
  · cases h

theorem cut_some : ∀ {cs : List SV} {o n : Nat} {x : List SV}, cut cs o n = some x → x = (cs.drop o).take n ∧ x.length = n
  | cs, 0, 0, x, h => by simp [cut] at h; subst h; simp
  | [], 0, n + 1, x, h => by simp [cut] at h
  | c :: r, 0, n + 1, x, h => by
    simp only [cut] at h
    split at h
    · rename_i y hy
      cases h
      obtain ⟨h1, h2⟩ := cut_some hy
      simp at h1
      exact ⟨by simp [h1], by simp [h2]⟩
    · cases h
  | [], o + 1, n, x, h => by cases n <;> simp [cut] at h
  | c :: r, o + 1, n, x, h => by
    simp only [cut] at h
    obtain ⟨h1, h2⟩ := cut_some h
    exact ⟨by simpa using h1, h2⟩
theorem cut_get {cs : List SV} {o n : Nat} {x : List SV} (h : cut cs o n = some x) {i : Nat} {s : SV} (hi : x[i]? = some s) : cs[o + i]? = some s := by
  obtain ⟨h1, h2⟩ := cut_some h
  have hlt : i < n := by have := (List.getElem?_eq_some_iff.1 hi).1; omega
  rw [h1, List.getElem?_take, if_pos hlt, List.getElem?_drop] at hi
  exact hi

/-- A part of an aggregate. -/
theorem partS_run {t : TypeId} {cs : List SV} {o : Nat} {s : SV} (h : partS P t cs o = some s) {vs : Array Value} (hr : SV.reps E β cs vs.toList) (w : World) :
    ∃ v, (part t vs o).run P w = .ok v w ∧ SV.rep E β s v := by
  unfold partS at h
  unfold part
  split at h
  · rename_i ha
    split at h
    · rename_i n hn
      split at h <;> cases h
      rename_i x hx
      refine ⟨.agg (vs.extract o (o + n)), by simp [aggT_run ha, szT_run hn], ?_⟩
      simp only [SV.rep]
      refine ⟨_, rfl, reps_iff.2 ⟨?_, fun i t hi => ?_⟩⟩
      · obtain ⟨h1, h2⟩ := cut_some hx
        have hl := reps_length hr
        have : (cs.drop o).length ≥ n := by
          rw [h1, List.length_take] at h2; omega
        simp only [List.length_drop, Array.length_toList] at *
        simp [h2]; omega
      · have h3 := cut_get hx hi
        obtain ⟨v, hv, hrep⟩ := reps_get hr h3
        have hlt : i < n := by have := (List.getElem?_eq_some_iff.1 hi).1; have := (cut_some hx).2; omega
        refine ⟨v, ?_, hrep⟩
        rw [Array.getElem?_toList] at hv ⊢
        rw [Array.getElem?_extract]
        have : o + i < vs.size := (Array.getElem?_eq_some_iff.1 hv).1
        rw [if_pos (by omega)]
        exact hv
    · cases h
  · rename_i ha
    obtain ⟨v, hv, hrep⟩ := reps_get hr ((nth?_get ..).symm.trans h)
    rw [Array.getElem?_toList] at hv
    exact ⟨v, by simp [aggT_run ha, hv], hrep⟩
  · cases h

theorem add_at (b o i : Nat) : (⟨b, o, none⟩ : Addr).add i = ⟨b, o + i, none⟩ := by
  unfold Addr.add
  split
  · rename_i h; subst h; rfl
  · rfl

theorem list_choice {A B : Type} (R : A → B → Prop) : ∀ (l : List A) (f : Nat → Option B), (∀ (i : Nat) (a : A), l[i]? = some a → ∃ b, f i = some b ∧ R a b) →
    ∃ bs : List B, bs.length = l.length ∧ (∀ (i : Nat) (b : B), bs[i]? = some b → f i = some b) ∧ ∀ (i : Nat) (a : A), l[i]? = some a → ∃ b, bs[i]? = some b ∧ R a b
  | [], f, _ => ⟨[], rfl, fun i b h => by simp at h, fun i a h => by simp at h⟩
  | a :: l, f, h => by
    obtain ⟨b, hb, hr⟩ := h 0 a rfl
    obtain ⟨bs, h1, h2, h3⟩ := list_choice R l (fun i => f (i + 1)) (fun i x hx => h (i + 1) x (by simpa using hx))
    refine ⟨b :: bs, by simp [h1], fun i x hx => ?_, fun i x hx => ?_⟩
    · cases i with
      | zero => simp at hx; subst hx; exact hb
      | succ i => exact h2 i x (by simpa using hx)
    · cases i with
      | zero => simp at hx; subst hx; exact ⟨b, rfl, hr⟩
      | succ i => simpa using h3 i x (by simpa using hx)

/-- Cells of memory, loaded. -/
theorem loadCells_run {sb : SB} {b : Bs} {w : World} (hr : SB.reads E β sb b w) {o n : Nat} {x : List SV} (h : cut sb.cs o n = some x) :
    ∃ vs : List Value, (loadCells ⟨b.blk, b.off + o, none⟩ n).run P w = .ok vs.toArray w ∧ vs.length = n ∧ SV.reps E β x vs ∧ (∀ v ∈ vs, v.oneCell' = true) ∧ ∀ i v, vs[i]? = some v → w.cell? ⟨b.blk, b.off + o + i, none⟩ = some v := by
  obtain ⟨vs, h1, h2, h3⟩ := list_choice (fun (s : SV) (v : Value) => v.oneCell' = true ∧ SV.rep E β s v) x (fun i => w.cell? ⟨b.blk, b.off + (o + i), none⟩) (fun i s hi => by
    obtain ⟨v, hv, h1, h2⟩ := hr.2 (o + i) s (cut_get h hi)
    exact ⟨v, hv, h1, h2⟩)
  have hn := (cut_some h).2
  have hc : ∀ i v, vs[i]? = some v → w.cell? ⟨b.blk, b.off + o + i, none⟩ = some v := fun i v hv => by rw [Nat.add_assoc]; exact h2 i v hv
  refine ⟨vs, ?_, by omega, reps_iff.2 ⟨h1, fun i s hi => ?_⟩, fun v hv => ?_, hc⟩
  · have := run_loadCells_list (P := P) w ⟨b.blk, b.off + o, none⟩ vs (fun j v hv => by rw [add_at]; exact hc j v hv)
    rwa [show vs.length = n by omega] at this
  · obtain ⟨v, hv, _, hrep⟩ := h3 i s hi; exact ⟨v, hv, hrep⟩
  · obtain ⟨i, hi, rfl⟩ := List.getElem_of_mem hv
    obtain ⟨v', hv', h4, _⟩ := h3 i x[i] (List.getElem?_eq_getElem (by omega))
    rw [List.getElem?_eq_getElem hi] at hv'; cases hv'; exact h4

theorem loadVar_run {sb : SB} {b : Bs} {w : World} (hr : SB.reads E β sb b w) {t : TypeId} {o : Nat} {s : SV} (h : partS P t sb.cs o = some s) :
    ∃ v, (loadVar t ⟨b.blk, b.off + o, none⟩).run P w = .ok v w ∧ SV.rep E β s v := by
  unfold partS at h
  unfold loadVar
  split at h
  · rename_i ha
    split at h
    · rename_i n hn
      split at h <;> cases h
      rename_i x hx
      obtain ⟨vs, h1, _, h2, _⟩ := loadCells_run (P := P) hr hx
      exact ⟨.agg vs.toArray, by simp [aggT_run ha, szT_run hn, h1], by simp only [SV.rep]; exact ⟨_, rfl, by simpa using h2⟩⟩
    · cases h
  · rename_i ha
    obtain ⟨v, hv, _, hrep⟩ := hr.2 o s ((nth?_get ..).symm.trans h)
    exact ⟨v, by simp [aggT_run ha, hv], hrep⟩
  · cases h
end

section
variable {P : Program} {E : Env} {β : Pl}
/-- One cell of a row of an open list. -/
theorem rowCell_run {sb : SB} {b : Bs} {w : World} (hr : SB.reads E β sb b w) {ks : List SK} {t i : Tm} {k l : Nat} (hk : (k : Int) = (i.den E).toI) (hkl : k < l) (hval : b.val = (t.den E).list) (hrows : RowsOk (kScs ks) (l : Nat) b.val)
    {q : Nat} {kd : SK} (hq : ks[q]? = some kd) : ∃ v : Value, w.cell? ⟨b.blk, b.off + (k * ks.length + q), none⟩ = some v ∧ v.oneCell' = true ∧ kd.rep ((cellT t i ks.length q).den E) v := by
  have hqlt : q < ks.length := (List.getElem?_eq_some_iff.1 hq).1
  have hlen : (kScs ks).length = ks.length := by simp [kScs]
  have hvl : b.val.length = l * ks.length := by
    have := hrows.1
    rw [hlen, ← Int.natCast_mul] at this
    exact Int.ofNat.inj this
  have hidx : k * ks.length + q < b.val.length := by
    rw [hvl]
    have : (k + 1) * ks.length ≤ l * ks.length := Nat.mul_le_mul_right _ hkl
    rw [Nat.succ_mul] at this
    omega
  have hx : b.val[k * ks.length + q]? = some b.val[k * ks.length + q] := List.getElem?_eq_getElem hidx
  obtain ⟨c', hc'⟩ := hrows.2 _ _ hx
  rw [hlen, show (k * ks.length + q) % ks.length = q by rw [Nat.mul_comm, Nat.mul_add_mod]; exact Nat.mod_eq_of_lt hqlt] at hc'
  have hd : (kScs ks).getD q .nil = .i kd.n := by simp [kScs, List.getD, hq]
  rw [hd] at hc'
  rcases hr.gen with hnil | ⟨_, hg⟩
  · rw [hnil] at hidx; simp at hidx
  · obtain ⟨v, h1, h2, kd', c, h3, h4⟩ := hg _ _ hx
    rw [hc'] at h3
    simp only [Sc.cons.injEq, Sc.i.injEq, Int.natCast_inj] at h3
    have hkd : kd' = kd := SK.n_inj h3.1.symm
    subst hkd
    refine ⟨v, h1, h2, ?_⟩
    have e : (cellT t i ks.length q).den E = c := by
      show cellOf (t.den E).list _ = c
      unfold cellOf
      have e1 : (Sc.at_ 0 ((Tm.cons i (.cons (.il (.ofNat ks.length)) (.cons (.il (.ofNat q)) .nil))).den E)).toI.toNat = k := by
        simp only [Tm.den, Sc.at_zero, ← hk]; rfl
      have e2 : (Sc.at_ 1 ((Tm.cons i (.cons (.il (.ofNat ks.length)) (.cons (.il (.ofNat q)) .nil))).den E)).toI.toNat = ks.length := rfl
      have e3 : (Sc.at_ 2 ((Tm.cons i (.cons (.il (.ofNat ks.length)) (.cons (.il (.ofNat q)) .nil))).den E)).toI.toNat = q := rfl
      rw [e1, e2, e3, ← hval, hx, hc']
      exact h3.2
    rw [e]; exact h4
theorem rowCells_get {ks : List SK} {t i : Tm} {len : Nat} : ∀ {n o : Nat} {l : List SV}, rowCells ks t i len o n = some l → l.length = n ∧ ∀ (q : Nat) (s : SV), l[q]? = some s → ∃ kd, ks[o + q]? = some kd ∧ s = .sc kd (cellT t i len (o + q))
  | 0, o, l, h => by
    cases h
    exact ⟨rfl, fun q s hq => by simp at hq⟩
  | n + 1, o, l, h => by
    simp only [rowCells] at h
    split at h
    · rename_i k r hk hr
      cases h
      rw [nth?_get] at hk
      obtain ⟨g1, g2⟩ := rowCells_get hr
      refine ⟨by simp [g1], fun q s hq => ?_⟩
      cases q with
      | zero => simp at hq; subst hq; exact ⟨k, hk, rfl⟩
      | succ q =>
        obtain ⟨kd, h1, h2⟩ := g2 q s (by simpa using hq)
        rw [show o + 1 + q = o + (q + 1) by omega] at h1 h2
        exact ⟨kd, h1, h2⟩
    · cases h
theorem rowPart_run {sb : SB} {b : Bs} {w : World} (hr : SB.reads E β sb b w) {ks : List SK} {t i : Tm} {k l : Nat} (hk : (k : Int) = (i.den E).toI) (hkl : k < l) (hval : b.val = (t.den E).list) (hrows : RowsOk (kScs ks) (l : Nat) b.val)
    {ty : TypeId} {o : Nat} {s : SV} (h : rowPart P ty ks t i o = some s) : ∃ v, (loadVar ty ⟨b.blk, b.off + (k * ks.length + o), none⟩).run P w = .ok v w ∧ SV.rep E β s v := by
  unfold rowPart at h
  unfold loadVar
  split at h
  · rename_i ha
    split at h
    · rename_i n hn
      split at h
      · rename_i x hx
        cases h
        obtain ⟨g1, g2⟩ := rowCells_get hx
        obtain ⟨vs, h1, h2, h3⟩ := list_choice (fun (s : SV) (v : Value) => v.oneCell' = true ∧ SV.rep E β s v) x (fun q => w.cell? ⟨b.blk, b.off + (k * ks.length + (o + q)), none⟩) (fun q s hq => by
          obtain ⟨kd, e1, rfl⟩ := g2 q s hq
          obtain ⟨v, c1, c2, c3⟩ := rowCell_run hr hk hkl hval hrows e1
          exact ⟨v, c1, c2, c3⟩)
        have hload := run_loadCells_list (P := P) w ⟨b.blk, b.off + (k * ks.length + o), none⟩ vs (fun j v hv => by
          rw [add_at, show b.off + (k * ks.length + o) + j = b.off + (k * ks.length + (o + j)) by omega]; exact h2 j v hv)
        rw [show vs.length = n by omega] at hload
        refine ⟨.agg vs.toArray, by simp [aggT_run ha, szT_run hn, hload], ?_⟩
        simp only [SV.rep]
        exact ⟨_, rfl, reps_iff.2 ⟨by simpa using h1, fun q s hq => by
          obtain ⟨v, hv, _, hrep⟩ := h3 q s hq
          exact ⟨v, by simpa using hv, hrep⟩⟩⟩
      · cases h
    · cases h
  · rename_i ha
    split at h
    · rename_i kd hkd
      cases h
      rw [nth?_get] at hkd
      obtain ⟨v, c1, c2, c3⟩ := rowCell_run hr hk hkl hval hrows hkd
      exact ⟨v, by simp [aggT_run ha, c1], c3⟩
    · cases h
  · cases h
end
/-- Names that are still free. -/
def Fresh (β : Pl) (n l : Nat) : Prop := ∀ j, n ≤ j → j < l → β j = none
def upd (β : Pl) (j : Nat) (b : Bs) : Pl := fun i => if i = j then some b else β i
theorem upd_le {β : Pl} {n l : Nat} (h : Fresh β n l) (hl : n < l) (b : Bs) : Pl.le β (upd β n b) := by
  intro j x hx
  unfold upd
  split
  · rename_i hj; subst hj; rw [h j (Nat.le_refl _) hl] at hx; cases hx
  · exact hx

theorem ext_upd {β : Pl} {n l : Nat} (h : Fresh β n l) (hl : n < l) (b : Bs) : Ext β (upd β n b) n (n + 1) :=
  ⟨upd_le h hl b, fun j hj => by unfold upd; rw [if_neg (by omega)], Nat.le_succ _⟩
/-- A new block. -/
theorem step_newR {E : Env} {β : Pl} {w : World} {n l : Nat} (hf : Fresh β n l) (hl : n < l) {cs : List SV} {arr : Array Value} (e : TypeId) (cap : Nat) (row : Option (Nat × Nat × Nat))
    (hr : SV.reps E β cs arr.toList) (h1 : ∀ v ∈ arr.toList, v.oneCell' = true)
    (hrow : match row with
      | none => True
      | some (e', size, n) => e = e' ∧ arr.size = cap * size ∧ n ≤ cap ∧ cap ≤ maxLen ∧ cs.length = n * size)
    (hz : ∀ e s, row = some (e, s, 0) → cap = 0) :
    Step E β (upd β n ⟨w.heap.size, 0, cap, []⟩) w (w.alloc (.cells arr e)) n (n + 1) [(n, ⟨cs, row⟩)] := by
  have hle := upd_le hf hl ⟨w.heap.size, 0, cap, []⟩
  refine ⟨(Below.refl _ _).alloc (Nat.le_refl _) _, hle, fun j hj => ?_, Nat.le_succ _, ⟨fun j sb hj => ?_, fun j sb j' sb' b b' hj hj' hne => ?_⟩⟩
  · unfold upd; rw [if_neg (by omega)]
  · simp at hj
    obtain ⟨rfl, rfl⟩ := hj
    refine ⟨⟨w.heap.size, 0, cap, []⟩, by simp [upd], ⟨by simp, fun i s hi => ?_, .inl rfl, fun e s h _ => hz e s h⟩, Nat.le_refl _, rfl, arr, e, ?_, hrow⟩
    · obtain ⟨v, hv, hrep⟩ := reps_get hr hi
      refine ⟨v, ?_, h1 v (List.mem_of_getElem? hv), SV.rep_mono hle _ _ hrep⟩
      rw [Array.getElem?_toList] at hv
      simpa using hv
    · show (w.heap.push _)[w.heap.size]? = _
      simp
  · simp at hj hj'
    exact absurd (hj.1.trans hj'.1.symm) hne
theorem step_new {E : Env} {β : Pl} {w : World} {n l : Nat} (hf : Fresh β n l) (hl : n < l) {cs : List SV} {arr : Array Value} (e : TypeId) (cap : Nat)
    (hr : SV.reps E β cs arr.toList) (h1 : ∀ v ∈ arr.toList, v.oneCell' = true) :
    Step E β (upd β n ⟨w.heap.size, 0, cap, []⟩) w (w.alloc (.cells arr e)) n (n + 1) [(n, ⟨cs, none⟩)] := step_newR hf hl e cap none hr h1 trivial (fun _ _ h => by cases h)

/-- What is shown of an operation: it gives a value that the symbolic one stands for, and makes the memory that is said. -/
def OpOk (P : Program) (E : Env) (β : Pl) (n l : Nat) (w : World) (s : Sem Value) (r : Res) : Prop :=
  PcOk E r.pc ∧ r.nxt ≤ l ∧ ∃ v w' β', s.run P w = .ok v w' ∧ SV.rep E β' r.v v ∧ Step E β β' w w' n r.nxt r.nb

section
variable {P : Program} {E : Env} {β : Pl} {m : Mm} {w : World} {pc : PC} {r : Res}

theorem OpOk.val {s : Sem Value} {sv : SV} {v : Value} (hl : m.nxt ≤ m.lim) (hp : PcOk E pc) (hs : s.run P w = .ok v w) (hv : SV.rep E β sv v)
    (h : (Sx.val m pc sv).sel E = some r) : OpOk P E β m.nxt m.lim w s r := by
  simp only [Sx.val, Out.sel, Option.some.injEq] at h
  subst h
  exact ⟨hp, hl, v, w, β, hs, hv, Step.refl _⟩
theorem OpOk.valF {s : Sem Value} {k : FloatKind} {t : Tm} (hl : m.nxt ≤ m.lim) (hp : PcOk E pc) (hs : FRun P s k (t.den E).toF w)
    (h : (Sx.val m pc (.sc (.float k) t)).sel E = some r) : OpOk P E β m.nxt m.lim w s r := by
  simp only [Sx.val, Out.sel, Option.some.injEq] at h
  subst h
  obtain ⟨x, w', hr, hc, hw⟩ := hs
  refine ⟨hp, hl, _, w', β, hr, ?_, ?_⟩
  · simp only [SV.rep, SK.rep]; exact ⟨x, rfl, hc⟩
  · rcases hw with rfl | rfl
    · exact Step.refl _
    · exact Step.drew _

theorem int_rep {k : IntKind} {t : Tm} {v : Value} (h : SV.rep E β (.sc (.int k) t) v) : v = .int k (t.den E).toI := by simpa [SV.rep, SK.rep] using h
theorem bool_rep {t : Tm} {v : Value} (h : SV.rep E β (.sc .bool t) v) : v = .bool (t.den E).toB := by simpa [SV.rep, SK.rep] using h
theorem str_rep {t : Tm} {v : Value} (h : SV.rep E β (.sc .str t) v) : v = .string ⟨(t.den E).toS.toArray⟩ := by simpa [SV.rep, SK.rep] using h
theorem float_rep {k : FloatKind} {t : Tm} {v : Value} (h : SV.rep E β (.sc (.float k) t) v) : ∃ x, v = .float k x ∧ canon k x = (t.den E).toF := by simpa [SV.rep, SK.rep] using h
theorem rep_int {k : IntKind} {t : Tm} {n : Int} (h : n = (t.den E).toI) : SV.rep E β (.sc (.int k) t) (.int k n) := by simp [SV.rep, SK.rep, h]
theorem rep_bool {t : Tm} {b : Bool} (h : b = (t.den E).toB) : SV.rep E β (.sc .bool t) (.bool b) := by simp [SV.rep, SK.rep, h]

theorem mkCmpR_den (o : Opc) (a : Tm) (b : Tm) : ((mkCmpR o a b).den E).toB = (o.den (a.den E) (b.den E)).toB := by
  induction b with
  | ite c x y _ ihx ihy =>
    simp only [mkCmpR, mkIteB_den, ihx, ihy, Tm.den]
    split <;> rfl
  | _ => simp only [mkCmpR, mkOp_den]
theorem cmpI_den (o : Opc) (r : Bool) (a b : Tm) (hr : ∀ c : Sc, (o.den c c).toB = r) : ((cmpI o r a b).den E).toB = (o.den (a.den E) (b.den E)).toB := by
  unfold cmpI
  split
  · rename_i h; rw [Tm.beq_eq h, hr]; rfl
  · split
    · exact mkCmp_den E o b a
    · split
      · exact mkCmpR_den o a b
      · rw [mkOp_den]
theorem eqi_self (c : Sc) : (Opc.eqi.den c c).toB = true := by simp [Opc.den]
theorem lti_self (c : Sc) : (Opc.lti.den c c).toB = false := by simp [Opc.den]
theorem lei_self (c : Sc) : (Opc.lei.den c c).toB = true := by simp [Opc.den]

theorem geT_ok (hp : PcOk E pc) {n : Int} {t : Tm} (h : geT pc n t = true) : n ≤ (t.den E).toI := by
  unfold geT at h
  split at h
  · rename_i l _ hi
    have h1 := (ivl_ok hp t _ _ hi).1
    have h2 : n ≤ l := ile_of h
    omega
  · cases h
theorem quo_zero {k : IntKind} {a b : Int} (ha : 0 ≤ a) (hb : 1 ≤ b) (hw : k.wrap (a.tdiv b) = a.tdiv b) : (k.wrap (a.tdiv b) = 0) ↔ a < b := by
  rw [hw, Int.tdiv_eq_ediv_of_nonneg ha]
  constructor
  · intro h
    rcases Int.lt_or_le a b with h1 | h1
    · exact h1
    · have := Int.le_ediv_of_mul_le (a := 1) (by omega : 0 < b) (by omega : 1 * b ≤ a)
      omega
  · intro h
    exact Int.ediv_eq_zero_of_lt ha h
theorem quoZ_den (hp : PcOk E pc) : ∀ (t : Tm), ((quoZ pc t).den E).toB = decide ((t.den E).toI = 0) := by
  intro t
  induction t with
  | ite c x y _ ihx ihy =>
    have plain : ((mkIteB c (quoZ pc x) (quoZ pc y)).den E).toB = decide (((Tm.ite c x y).den E).toI = 0) := by
      rw [mkIteB_den, ihx, ihy]
      simp only [Tm.den]
      split <;> rfl
    simp only [quoZ]
    split
    · rename_i hc
      have hc' := Tm.beq_eq hc
      split
      · rename_i hx hy
        have hx' := geT_ok hp hx
        have hy' := geT_ok hp hy
        rw [mkIteB_den, ihx, ihy, hc']
        simp only [Tm.den, Opc.den, Sc.toB_b]
        by_cases hlt : (x.den E).toI < (y.den E).toI
        · simp only [decide_eq_true hlt, if_true]
          by_cases hz : (x.den E).toI = 0
          · simp [hz]
          · have : ¬ (y.den E).toI = 0 := by omega
            simp [hz, this]
        · simp only [decide_eq_false hlt, Bool.false_eq_true, if_false]
          by_cases hz : (x.den E).toI = 0
          · have : (y.den E).toI = 0 := by omega
            simp [hz, this]
          · simp [hz]
      · exact plain
    · exact plain
  | op o x y _ _ =>
    simp only [quoZ]
    split
    · rename_i k
      split
      · rename_i l hh hx hy
        split
        · rename_i h0 hk
          obtain ⟨x1, x2⟩ := ivl_ok hp x _ _ hx
          have hy' := geT_ok hp hy
          have h0' : 0 ≤ l := ile_of h0
          have hkk := inK_ok hk
          rw [mkOp_den]
          simp only [Tm.den, Opc.den, Sc.toI_i, Sc.toB_b]
          have e3 : (x.den E).toI.tdiv (y.den E).toI = (x.den E).toI / (y.den E).toI := Int.tdiv_eq_ediv_of_nonneg (by omega)
          have e4 : 0 ≤ (x.den E).toI / (y.den E).toI := Int.ediv_nonneg (by omega) (by omega)
          have e5 : (x.den E).toI / (y.den E).toI ≤ (x.den E).toI := Int.ediv_le_self _ (by omega)
          have := quo_zero (k := k) (a := (x.den E).toI) (b := (y.den E).toI) (by omega) hy' (wrap_in k (by rw [e3]; omega) (by rw [e3]; omega))
          exact (decide_eq_decide.2 this).symm
        · rw [mkOp_den]; rfl
      · rw [mkOp_den]; rfl
    · rw [mkOp_den]; rfl
  | _ => simp only [quoZ]; rw [mkOp_den]; rfl
theorem eqZ_den (hp : PcOk E pc) (a b : Tm) : ((eqZ pc a b).den E).toB = decide ((a.den E).toI = (b.den E).toI) := by
  unfold eqZ
  split
  · rename_i n
    split
    · rename_i hn
      rw [quoZ_den hp, ieq_eq hn]; rfl
    · rw [cmpI_den _ _ _ _ eqi_self]; rfl
  · rw [cmpI_den _ _ _ _ eqi_self]; rfl

theorem ltI_den (hp : PcOk E pc) (a b : Tm) : ((ltI pc a b).den E).toB = decide ((a.den E).toI < (b.den E).toI) := by
  have base : ∀ b : Tm, ((cmpI .lti false a b).den E).toB = decide ((a.den E).toI < (b.den E).toI) := fun b => by rw [cmpI_den _ _ _ _ lti_self]; simp [Opc.den]
  unfold ltI
  split
  · rename_i o y z
    split
    · rename_i l h ho hz hi
      split
      · rename_i hk
        have ho' : o = .addi .i64 := Opc.n_inj (Nat.eq_of_beq_eq_true ho)
        have hz' := ieq_eq hz
        subst ho' hz'
        obtain ⟨i1, i2⟩ := ivl_ok hp y _ _ hi
        obtain ⟨k1, k2⟩ := inK_ok hk
        have e : ((Tm.op (.addi .i64) y (.il 1)).den E).toI = (y.den E).toI + 1 := by
          show IntKind.i64.wrap ((y.den E).toI + 1) = _
          exact wrap_in .i64 (by omega) (by omega)
        rw [e, cmpI_den _ _ _ _ lei_self]
        show decide ((a.den E).toI ≤ (y.den E).toI) = _
        exact decide_eq_decide.2 (by omega)
      · exact base _
    · exact base _
  · exact base _
theorem w64 (n : Int) : IntKind.i64.wrap n = (n + 9223372036854775808) % 18446744073709551616 - 9223372036854775808 := by
  simp only [IntKind.wrap, IntKind.bits, IntKind.signed]
  simp
  try split
  all_goals omega
theorem strip0_den (t : Tm) : IntKind.i64.wrap ((strip0 t).den E).toI = IntKind.i64.wrap (t.den E).toI := by
  induction t with
  | op o x y ihx ihy =>
    unfold strip0
    split
    · rename_i ho
      have ho' : o = .addi .i64 := Opc.n_inj (Nat.eq_of_beq_eq_true ho)
      subst ho'
      split
      · rename_i h
        rw [ihy, Tm.beq_eq h]
        show _ = IntKind.i64.wrap (IntKind.i64.wrap ((0 : Int) + (y.den E).toI))
        simp only [w64]
        omega
      · split
        · rename_i h
          rw [ihx, Tm.beq_eq h]
          show _ = IntKind.i64.wrap (IntKind.i64.wrap ((x.den E).toI + (0 : Int)))
          simp only [w64]
          omega
        · rfl
    · rfl
  | _ => rfl
theorem cancT_den (hp : PcOk E pc) {a b x : Tm} (h : cancT pc a b = some x) : (x.den E).toI = IntKind.i64.wrap ((a.den E).toI + (b.den E).toI) := by
  unfold cancT at h
  split at h
  · rename_i o u y
    split at h
    · rename_i l h' ho hy hi
      split at h
      · rename_i hk
        cases h
        have ho' : o = .subi .i64 := Opc.n_inj (Nat.eq_of_beq_eq_true ho)
        subst ho'
        have e := Tm.beq_eq hy
        subst e
        obtain ⟨i1, i2⟩ := ivl_ok hp x _ _ hi
        obtain ⟨k1, k2⟩ := inK_ok hk
        have e := wrap_in .i64 (n := (x.den E).toI) (by omega) (by omega)
        show _ = IntKind.i64.wrap (IntKind.i64.wrap ((x.den E).toI - (y.den E).toI) + (y.den E).toI)
        simp only [w64] at e ⊢
        omega
      · cases h
    · cases h
  · cases h
theorem addT_den (hp : PcOk E pc) (k : IntKind) (a b : Tm) : ((addT pc k a b).den E).toI = k.wrap ((a.den E).toI + (b.den E).toI) := by
  have base : ((mkOp (.addi k) a b).den E).toI = k.wrap ((a.den E).toI + (b.den E).toI) := by rw [mkOp_den]; rfl
  unfold addT
  split
  · rename_i hk
    have hk' : k = .i64 := ki_inj (Nat.eq_of_beq_eq_true hk)
    subst hk'
    have ea := strip0_den (E := E) a
    have eb := strip0_den (E := E) b
    split
    · rename_i x h
      rw [cancT_den hp h]
      simp only [w64] at ea eb ⊢
      omega
    · split
      · rename_i x h
        rw [cancT_den hp h]
        simp only [w64] at ea eb ⊢
        omega
      · exact base
  · exact base
theorem intBin_ok {op : BinOp} {k : IntKind} {a b : Tm} (hp : PcOk E pc) (hl : m.nxt ≤ m.lim) (h : (intBin m pc op k a b).sel E = some r) (hns : op ≠ .shl ∧ op ≠ .shr) (t : TypeId) :
    OpOk P E β m.nxt m.lim w (binOp op t (.int k (a.den E).toI) (.int k (b.den E).toI)) r := by
  have hb : ∀ op, op ≠ .shl → op ≠ .shr → binOp op t (.int k (a.den E).toI) (.int k (b.den E).toI) = (match op with
    | .add | .sub | .mul => Op.intArith op k (a.den E).toI (b.den E).toI
    | .quo | .rem => Op.intDiv op k (a.den E).toI (b.den E).toI
    | .and | .or | .xor | .andNot => Op.intBits op k (a.den E).toI (b.den E).toI
    | _ => Op.intCmp op (a.den E).toI (b.den E).toI) := by
    intro op h1 h2
    cases op <;> first | exact absurd rfl h1 | exact absurd rfl h2 | simp [binOp]
  rw [hb op hns.1 hns.2]
  cases op <;> simp only [intBin] at h
  case quo =>
    obtain ⟨pc', hp', h⟩ := fork_sel hp h
    rcases h with ⟨_, h⟩ | ⟨hz, h⟩
    · cases h
    · have hz' : ¬ (b.den E).toI = 0 := by rw [cmpI_den _ _ _ _ eqi_self] at hz; exact of_decide_eq_false hz
      exact .val (v := .int k (k.wrap ((a.den E).toI.tdiv (b.den E).toI))) hl hp' (by simp [Op.intDiv, hz']) (rep_int (by rw [mkOp_den]; rfl)) h
  case rem =>
    obtain ⟨pc', hp', h⟩ := fork_sel hp h
    rcases h with ⟨_, h⟩ | ⟨hz, h⟩
    · cases h
    · have hz' : ¬ (b.den E).toI = 0 := by rw [cmpI_den _ _ _ _ eqi_self] at hz; exact of_decide_eq_false hz
      exact .val (v := .int k ((a.den E).toI.tmod (b.den E).toI)) hl hp' (by simp [Op.intDiv, hz']) (rep_int (by rw [mkOp_den]; rfl)) h
  case shl => exact absurd rfl hns.1
  case shr => exact absurd rfl hns.2
  case eql => exact .val hl hp rfl (rep_bool (by rw [eqZ_den hp]; rfl)) h
  case neq => exact .val hl hp rfl (rep_bool (by rw [mkNot_den, eqZ_den hp]; rfl)) h
  case add => exact .val hl hp rfl (rep_int (addT_den hp k a b).symm) h
  case lss => exact .val hl hp rfl (rep_bool (by rw [ltI_den hp])) h
  case leq => exact .val hl hp rfl (rep_bool (by rw [cmpI_den _ _ _ _ lei_self]; simp [Opc.den])) h
  case gtr => exact .val hl hp rfl (rep_bool (by rw [ltI_den hp])) h
  case geq => exact .val hl hp rfl (rep_bool (by rw [cmpI_den _ _ _ _ lei_self]; simp [Opc.den])) h
  all_goals exact .val hl hp rfl (rep_int (by rw [mkOp_den]; rfl)) h

theorem shiftBin_ok {op : BinOp} {k k' : IntKind} {a b : Tm} (hp : PcOk E pc) (hl : m.nxt ≤ m.lim) (h : (shiftBin m pc op k a b).sel E = some r) (t : TypeId) :
    OpOk P E β m.nxt m.lim w (binOp op t (.int k (a.den E).toI) (.int k' (b.den E).toI)) r := by
  unfold shiftBin at h
  obtain ⟨pc', hp', h⟩ := fork_sel hp h
  rcases h with ⟨_, h⟩ | ⟨hz, h⟩
  · cases h
  · have hz' : ¬ (b.den E).toI < 0 := by rw [cmpI_den _ _ _ _ lti_self] at hz; exact of_decide_eq_false hz
    cases op <;> simp only [Out.sel, reduceCtorEq] at h
    · exact .val (v := .int k (k.wrap ((a.den E).toI * 2 ^ (min (b.den E).toI.toNat k.bits)))) hl hp' (by simp [binOp, Op.shift, hz']) (rep_int (by rw [mkOp_den]; rfl)) h
    · exact .val (v := .int k ((a.den E).toI.fdiv (2 ^ (min (b.den E).toI.toNat k.bits)))) hl hp' (by simp [binOp, Op.shift, hz']) (rep_int (by rw [mkOp_den]; rfl)) h

theorem mkFeq_den (k : FloatKind) (a b : Tm) : ((mkFeq k a b).den E).toB = F.eq k (a.den E).toF (b.den E).toF := by
  unfold mkFeq
  split
  · rename_i h
    rw [← Tm.beq_eq h, mkNot_den, mkOp_den, F.eq_self]; rfl
  · rw [mkOp_den]; rfl
theorem floatBin_ok {op : BinOp} {k : FloatKind} {a b : Tm} {x y : Nat} (hx : canon k x = (a.den E).toF) (hy : canon k y = (b.den E).toF) (hp : PcOk E pc) (hl : m.nxt ≤ m.lim)
    (h : (floatBin m pc op k a b).sel E = some r) (t : TypeId) : OpOk P E β m.nxt m.lim w (binOp op t (.float k x) (.float k y)) r := by
  obtain ⟨h1, h2, h3, h4⟩ := floatArith_run (P := P) w k x y
  rw [hx, hy] at h1 h2 h3 h4
  have hb : ∀ op, binOp op t (.float k x) (.float k y) = (match op with
    | .add | .sub | .mul | .quo => Op.floatArith op k x y
    | _ => Op.floatCmp op k x y) := by
    intro op
    cases op <;> simp [binOp]
  have ho := order_canon k x y
  have ho' := order_canon k y x
  rw [hx, hy] at ho
  rw [hx, hy] at ho'
  rw [hb op]
  cases op <;> simp only [floatBin] at h
  case add => exact .valF hl hp (by rw [mkOp_den]; exact h1) h
  case sub => exact .valF hl hp (by rw [mkOp_den]; exact h2) h
  case mul => exact .valF hl hp (by rw [mkOp_den]; exact h3) h
  case quo => exact .valF hl hp (by rw [mkOp_den]; exact h4) h
  case eql => exact .val hl hp rfl (rep_bool (by rw [mkFeq_den]; unfold F.eq; rw [ho])) h
  case neq => exact .val hl hp rfl (rep_bool (by rw [mkNot_den, mkFeq_den]; unfold F.eq; rw [ho]; rfl)) h
  case lss => exact .val hl hp rfl (rep_bool (by rw [mkOp_den]; simp only [Opc.den, Sc.toB_b, F.lt]; rw [ho])) h
  case leq => exact .val hl hp rfl (rep_bool (by rw [mkOp_den]; simp only [Opc.den, Sc.toB_b, F.le]; rw [ho])) h
  case gtr => exact .val hl hp rfl (rep_bool (by rw [mkOp_den]; simp only [Opc.den, Sc.toB_b]; rw [F.gt_lt]; unfold F.lt; rw [ho'])) h
  case geq => exact .val hl hp rfl (rep_bool (by rw [mkOp_den]; simp only [Opc.den, Sc.toB_b, F.le]; rw [F.gt_lt, F.eq_comm k x y]; unfold F.lt; rw [ho'])) h
  all_goals cases h

end
end Go.Sx
