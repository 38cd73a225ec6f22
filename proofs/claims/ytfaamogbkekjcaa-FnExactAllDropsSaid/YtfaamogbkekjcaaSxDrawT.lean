/- The symbolic executor is sound, sixth part: regions. No condition. -/
import Derived.Test.YtfaamogbkekjcaaSxDrawS
set_option linter.unusedVariables false
set_option linter.unusedSimpArgs false
noncomputable section
namespace Go.Sx
open Go Go.RowKit

/-- How many of the first n are not done. -/
def undone (d : Array Bool) : Nat → Nat
  | 0 => 0
  | n + 1 => undone d n + (if d[n]? = some true then 0 else 1)
theorem undone_set {d : Array Bool} {i : Nat} (hi : i < d.size) (hn : ¬ Done d i) : ∀ n, (n ≤ i → undone (d.setIfInBounds i true) n = undone d n) ∧ (i < n → undone (d.setIfInBounds i true) n + 1 = undone d n)
  | 0 => ⟨fun _ => rfl, fun h => by omega⟩
  | n + 1 => by
    obtain ⟨h1, h2⟩ := undone_set hi hn n
    have hne : n ≠ i → (d.setIfInBounds i true)[n]? = d[n]? := fun h => by rw [Array.getElem?_setIfInBounds, if_neg (Ne.symm h)]
    refine ⟨fun h => ?_, fun h => ?_⟩
    · simp only [undone]; rw [h1 (by omega), hne (by omega)]
    · simp only [undone]
      rcases Nat.lt_or_ge i n with hlt | hge
      · have := h2 hlt
        rw [hne (by omega)]; omega
      · have e : n = i := by omega
        subst e
        rw [h1 (Nat.le_refl _)]
        have : (d.setIfInBounds n true)[n]? = some true := by simp [hi]
        rw [this]
        simp only [if_true]
        rw [if_neg (show ¬ d[n]? = some true from hn)]
theorem undone_zero {d : Array Bool} : ∀ {n : Nat}, undone d n = 0 → ∀ j, j < n → Done d j
  | 0, _, j, h => by omega
  | n + 1, h, j, hj => by
    simp only [undone] at h
    rcases Nat.lt_or_ge j n with hlt | hge
    · exact undone_zero (by omega) j hlt
    · have : j = n := by omega
      subst this
      by_cases hd : d[j]? = some true
      · exact hd
      · rw [if_neg hd] at h; omega
theorem undone_eq {d : Array Bool} {kk : Nat} (h : ∀ j, Done d j ↔ j < kk) : ∀ n, undone d n = n - kk
  | 0 => by simp [undone]
  | n + 1 => by
    have ih := undone_eq h n
    simp only [undone]
    by_cases hn : n < kk
    · rw [if_pos (show d[n]? = some true from (h n).2 hn)]; omega
    · rw [if_neg (show ¬ d[n]? = some true from fun e => hn ((h n).1 e))]; omega
theorem undone_none (n : Nat) : ∀ k, k ≤ n → undone (Array.replicate n false) k = k
  | 0, _ => rfl
  | k + 1, h => by
    simp only [undone]
    rw [undone_none n k (by omega), if_neg (by simp [Array.getElem?_replicate])]

theorem sinks_bit {as : List Nat} : ∀ {i n : Nat}, sinksOk as i n = true → ∀ k, i ≤ k → k < i + n → ∀ q, q < k → (anc as k).testBit q = true
  | i, 0, _, k, h1, h2, _, _ => by omega
  | i, n + 1, h, k, h1, h2, q, hq => by
    simp only [sinksOk] at h
    split at h
    · rename_i hb
      rcases Nat.lt_or_ge i k with hlt | hge
      · exact sinks_bit h k hlt (by omega) q hq
      · have e : k = i := by omega
        subst e
        have hb' := Nat.eq_of_beq_eq_true hb
        have h3 : (anc as k % 2 ^ k).testBit q = (2 ^ k - 1).testBit q := by unfold anc; rw [hb']
        rw [Nat.testBit_mod_two_pow, Nat.testBit_two_pow_sub_one] at h3
        simpa [hq] using h3
    · cases h

section
variable {P : Program} {E : Env} {H : Hnd} {β0 β : Pl} {w0 w : World} {σ σ' : St} {a : Act} {ops : Array Oper} {Q : Exit → Act → World → Prop}

/-- The operations behind the first that writes: one after the other. -/
theorem seq_any (hH : HndOk P E H) (hN : Named P) (he : edgesOk ops.toList 0 = true) {kk : Nat} (hk : sinksOk (ancs ops.toList []) kk (ops.size - kk) = true) : ∀ (m k : Nat) {d : Array Bool} {β : Pl} {σ : St} {a : Act} {w : World}, k + m = ops.size → kk ≤ k → d.size = ops.size →
    (∀ j, Done d j ↔ j < k) → RepS E β w0 σ a w → (seqOps H P ops.toList (ops.toList.drop k) σ).sel E = some σ' → (∀ β' a' w', Ext β β' σ.nxt σ'.nxt → RepS E β' w0 σ' a' w' → Q .normal a' w') →
    wpAny P .any ops Q m d a w
  | 0, k, d, β, σ, a, w, hkm, hkk, hd, hdn, h, hs, hQ => by
    refine ⟨?_, ?_⟩
    · cases hr : Region.ready .any ops d with
      | nil => rfl
      | cons i r =>
        have hi : i ∈ Region.ready .any ops d := by rw [hr]; exact List.mem_cons_self ..
        obtain ⟨o, ho, hnd, _⟩ := (ready_iff hd).1 hi
        have := (Array.getElem?_eq_some_iff.1 ho).1
        exact absurd ((hdn i).2 (by omega)) hnd
    · have : ops.toList.drop k = [] := List.drop_eq_nil_of_le (by simp; omega)
      rw [this] at hs
      simp only [seqOps, Out.sel, Option.some.injEq] at hs
      subst hs
      exact hQ β a w (Ext.refl _ _) h
  | m + 1, k, d, β, σ, a, w, hkm, hkk, hd, hdn, h, hs, hQ => by
    refine ⟨fun hnil => absurd hnil (ready_some hd he (j := k) (by omega) (fun e => by have := (hdn k).1 e; omega)), fun i hi => ?_⟩
    have hc : Closed (ancs ops.toList []) d := fun j hj q hq => by
      have := anc_lt he j hq
      have := (hdn j).1 hj
      exact (hdn q).2 (by omega)
    obtain ⟨o, ho, hnd, _⟩ := (ready_iff hd).1 hi
    have hlt := (Array.getElem?_eq_some_iff.1 ho).1
    have hik : i = k := by
      have h1 : ¬ i < k := fun e => hnd ((hdn i).2 e)
      rcases Nat.lt_or_ge k i with h2 | h2
      · have := ready_anc hd he hc hi (sinks_bit hk i (by omega) (by omega) k h2)
        have := (hdn k).1 this
        omega
      · omega
    subst hik
    have hdrop : ops.toList.drop i = o :: ops.toList.drop (i + 1) := by
      rw [List.drop_eq_getElem_cons (by simpa using hlt)]
      congr 1
      rw [Array.getElem_toList]
      rw [Array.getElem?_eq_getElem hlt] at ho
      exact Option.some.inj ho
    rw [hdrop] at hs
    simp only [seqOps, fList_eq] at hs
    obtain ⟨σ1, hs1, hs2⟩ := Out.sel_bind_some hs
    refine stepG_wp hH hN ho h hs1 _ Q fun β' a' w' hle hrep => ?_
    refine seq_any hH hN he hk m (i + 1) (by omega) (by omega) (by simpa using hd) (fun j => ?_) hrep hs2 (fun β2 a2 w2 hle2 hrep2 => hQ β2 a2 w2 (Ext.trans hle hle2) hrep2)
    rw [done_set (by omega), hdn j]
    omega

theorem putAll_get : ∀ {full : List DR} {tm : List SV} {t : Nat} {s : SV}, (putAll tm full)[t]? = some s →
    (∃ (j : Nat) (dr : DR), full[j]? = some dr ∧ dr.dst = some t ∧ (∀ (j' : Nat) (dr' : DR), j < j' → full[j']? = some dr' → dr'.dst ≠ some t) ∧ s = dr.v) ∨ ((∀ (j : Nat) (dr : DR), full[j]? = some dr → dr.dst ≠ some t) ∧ tm[t]? = some s)
  | [], tm, t, s, h => .inr ⟨fun j dr h => by simp at h, h⟩
  | x :: r, tm, t, s, h => by
    simp only [putAll] at h
    rcases putAll_get h with ⟨j, dr, h1, h2, h3, h4⟩ | ⟨h1, h2⟩
    · refine .inl ⟨j + 1, dr, by simpa using h1, h2, fun j' dr' hlt hj' => ?_, h4⟩
      cases j' with
      | zero => omega
      | succ j' => exact h3 j' dr' (by omega) (by simpa using hj')
    · by_cases hx : x.dst = some t
      · refine .inl ⟨0, x, by simp, hx, fun j' dr' hlt hj' => ?_, ?_⟩
        · cases j' with
          | zero => omega
          | succ j' => exact h1 j' dr' (by simpa using hj')
        · rw [hx] at h2
          simp only [putT, kSet_eq] at h2
          rw [List.getElem?_set_self'] at h2
          cases hh : tm[t]? with
          | none => simp [hh] at h2
          | some y => simp [hh] at h2; exact h2.symm
      · refine .inr ⟨fun j dr hj => ?_, ?_⟩
        · cases j with
          | zero => simp at hj; subst hj; exact hx
          | succ j => exact h1 j dr (by simpa using hj)
        · cases hd : x.dst with
          | none => rw [hd] at h2; exact h2
          | some t' =>
            rw [hd] at h2 hx
            simp only [putT, kSet_eq] at h2
            rw [List.getElem?_set_ne (fun e => hx (by rw [e]))] at h2
            exact h2
theorem putAll_length : ∀ (full : List DR) (tm : List SV), (putAll tm full).length = tm.length
  | [], tm => rfl
  | x :: r, tm => by
    simp only [putAll]
    rw [putAll_length r]
    cases x.dst <;> simp [putT, kSet_eq]

theorem Mid.rep {full : List DR} {d : Array Bool} {pc : PC} {KK : List Nat} (huse : UsesOk KK σ.nxt full) (hp : PcOk E pc) (hnd : noDup ops.toList = true) (hlim : σ.nxt + full.length * σ.sz ≤ σ.lim) (hd : ∀ j, Done d j ↔ j < full.length)
    (hdst : ∀ (k : Nat) (dr : DR), full[k]? = some dr → ∃ o, ops[k]? = some o ∧ dr.dst = o.dst) (h : Mid E β0 β w0 σ ops.toList full d a w) :
    RepS E β w0 { σ with tm := putAll σ.tm full, own := memAll (dropK KK σ.own) full, nxt := σ.nxt + full.length * σ.sz, pc := pc } a w := by
  obtain ⟨mem, hmem, hsub, hnb⟩ := h.own
  refine { tm := reps_iff.2 ⟨?_, fun t s hs => ?_⟩, df := h.df, own := hmem.sub fun x hx => ?_, fresh := h.rest, le := hlim, below := h.below, ro := h.ro, pc := hp }
  · rw [putAll_length, Array.length_toList]; exact h.tm.1
  · have hlt : t < a.tmps.size := by
      have := (List.getElem?_eq_some_iff.1 hs).1
      rw [putAll_length] at this
      rw [h.tm.1]; exact this
    refine ⟨a.tmps[t], by rw [Array.getElem?_toList]; exact Array.getElem?_eq_getElem hlt, ?_⟩
    rcases putAll_get hs with ⟨j, dr, h1, h2, _, rfl⟩ | ⟨h1, h2⟩
    · obtain ⟨o, ho, hod⟩ := hdst j dr h1
      have hw := writer_at hnd (by simpa using ho) (hod ▸ h2)
      have hjl := (List.getElem?_eq_some_iff.1 h1).1
      rcases h.tm.2 t _ (Array.getElem?_eq_getElem hlt) with ⟨j', dr', h3, _, h5, h6⟩ | ⟨h3, _⟩
      · rw [hw] at h3; cases h3
        rw [h1] at h5; cases h5
        exact h6
      · exact absurd ((hd j).2 hjl) (h3 j hw)
    · rcases h.tm.2 t _ (Array.getElem?_eq_getElem hlt) with ⟨j', dr', h3, h4, h5, _⟩ | ⟨_, h4⟩
      · obtain ⟨o, ho, hod⟩ := hdst j' dr' h5
        obtain ⟨_, o', ho', hd'⟩ := writer_some h3
        rw [Nat.sub_zero, Array.getElem?_toList, ho] at ho'
        cases ho'
        exact absurd (hod.trans hd') (h1 j' dr' h5)
      · rw [List.getD_eq_getElem?_getD, h2] at h4; exact h4
  · rcases memAll_mem hx with hx | ⟨j, dr, h1, h2⟩
    · obtain ⟨hx1, hx2⟩ := dropK_mem hx
      exact hsub x hx1 fun j dr _ hf hu => hx2 (huse.inK j dr _ hf hu).1
    · exact hnb j dr ((hd j).2 (List.getElem?_eq_some_iff.1 h1).1) h1 x h2

theorem mid_any (hH : HndOk P E H) (hN : Named P) (he : edgesOk ops.toList 0 = true) (hnd : noDup ops.toList = true) {full : List DR} {pc : PC} (hp : PcOk E pc) (hkn : full.length ≤ ops.size)
    (hk : sinksOk (ancs ops.toList []) full.length (ops.size - full.length) = true) {m : Mm} {KK : List Nat} (hm : m = ⟨dropK KK σ.own ++ σ.ro, σ.nxt, σ.lim, σ.sz⟩) (huse : UsesOk KK σ.nxt full) (hlim : σ.nxt + full.length * σ.sz ≤ σ.lim)
    (hfull : ∀ (k : Nat) (o : Oper), k < full.length → ops[k]? = some o → ∃ dr, full[k]? = some dr ∧ OpDone P E H ops.toList (ancs ops.toList []) σ.own m σ.tm (full.take k) k o dr)
    (hs : (seqOps H P ops.toList (ops.toList.drop full.length) { σ with tm := putAll σ.tm full, own := memAll (dropK KK σ.own) full, nxt := σ.nxt + full.length * σ.sz, pc := pc }).sel E = some σ') :
    ∀ (fuel : Nat) {d : Array Bool} {β : Pl} {a : Act} {w : World}, d.size = ops.size → undone d ops.size = fuel → Closed (ancs ops.toList []) d → (∀ j, Done d j → j < full.length) → Mid E β0 β w0 σ ops.toList full d a w →
      (∀ β' a' w', Ext β0 β' σ.nxt σ'.nxt → RepS E β' w0 σ' a' w' → Q .normal a' w') → wpAny P .any ops Q fuel d a w := by
  intro fuel
  induction fuel with
  | zero =>
    intro d β a w hd hu hc hlt hmid hQ
    have hall := undone_zero hu
    have hiff : ∀ j, Done d j ↔ j < full.length := fun j => ⟨hlt j, fun h => hall j (by omega)⟩
    have hkn' : full.length = ops.size := by
      have := undone_eq hiff ops.size
      omega
    exact seq_any hH hN he hk 0 full.length (by omega) (Nat.le_refl _) hd hiff (hmid.rep huse hp hnd hlim hiff (fun k dr h => by
      have hkl := (List.getElem?_eq_some_iff.1 h).1
      have ho : ops[k]? = some ops[k] := Array.getElem?_eq_getElem (by omega)
      obtain ⟨dr', h1, h2⟩ := hfull k _ hkl ho
      rw [h] at h1; cases h1
      exact ⟨_, ho, h2.dst⟩)) hs (fun β2 a2 w2 he2 hr2 => hQ β2 a2 w2 (Ext.trans hmid.ext he2) hr2)
  | succ fuel ih =>
    intro d β a w hd hu hc hlt hmid hQ
    by_cases hall : ∀ j, j < full.length → Done d j
    · have hiff : ∀ j, Done d j ↔ j < full.length := fun j => ⟨hlt j, hall j⟩
      have := undone_eq hiff ops.size
      exact seq_any hH hN he hk (fuel + 1) full.length (by omega) (Nat.le_refl _) hd hiff (hmid.rep huse hp hnd hlim hiff (fun k dr h => by
        have hkl := (List.getElem?_eq_some_iff.1 h).1
        have ho : ops[k]? = some ops[k] := Array.getElem?_eq_getElem (by omega)
        obtain ⟨dr', h1, h2⟩ := hfull k _ hkl ho
        rw [h] at h1; cases h1
        exact ⟨_, ho, h2.dst⟩)) hs (fun β2 a2 w2 he2 hr2 => hQ β2 a2 w2 (Ext.trans hmid.ext he2) hr2)
    · simp only [Classical.not_forall] at hall
      obtain ⟨j, hj, hjn⟩ := hall
      refine ⟨fun hnil => absurd hnil (ready_some hd he (j := j) (by omega) hjn), fun i hi => ?_⟩
      obtain ⟨o, ho, hndi, _⟩ := (ready_iff hd).1 hi
      have hin := (Array.getElem?_eq_some_iff.1 ho).1
      have hil : i < full.length := by
        rcases Nat.lt_or_ge i full.length with h | h
        · exact h
        · exact absurd (ready_anc hd he hc hi (sinks_bit hk i h (by omega) j (by omega))) hjn
      refine hmid.step hH hN he hnd hm huse hlim hfull hd hc hil hi _ Q fun β' a' w' hmid' => ?_
      refine ih (by simpa using hd) ?_ (closed_set (by omega) hc (fun q hq => ready_anc hd he hc hi hq)) (fun q hq => ?_) hmid' hQ
      · have := (undone_set (by omega : i < d.size) hndi ops.size).2 hin
        omega
      · rcases (done_set (by omega)).1 hq with rfl | hq
        · exact hil
        · exact hlt q hq

/-! A store that doesn't wait for operations that only take a part of a tuple -/
theorem looseX_eq {o : Oper} {d t : Tmp} (h : looseX o = some (d, t)) : o.guard = none ∧ o.dst = some d ∧ ∃ i, o.op = .extract (.tmp t) i := by
  unfold looseX at h
  split at h
  · rename_i h1 h2 h3
    cases h
    exact ⟨h1, h2, _, h3⟩
  · cases h
theorem looseAll_at {l : List Oper} {x : Nat} {f : Tmp × Tmp → Bool} : ∀ {n : Nat}, looseAll l x f n = true → ∀ q, q < n → x.testBit q = false → ∃ o d t, l[q]? = some o ∧ looseX o = some (d, t) ∧ f (d, t) = true
  | 0, _, q, hq, _ => by omega
  | n + 1, h, q, hq, hb => by
    simp only [looseAll] at h
    split at h
    · rename_i hn
      rcases Nat.lt_or_ge q n with hlt | hge
      · exact looseAll_at h q hlt hb
      · have : q = n := by omega
        subst this
        rw [hn] at hb; cases hb
    · split at h
      · rename_i y hy
        split at h
        · rename_i hf
          rcases Nat.lt_or_ge q n with hlt | hge
          · exact looseAll_at h q hlt hb
          · have : q = n := by omega
            subst this
            unfold looseAt at hy
            rw [nth?_get] at hy
            split at hy
            · rename_i o ho
              exact ⟨o, y.1, y.2, ho, hy, hf⟩
            · cases hy
        · cases h
      · cases h
theorem storeFree_eq {o : Oper} {d : Tmp} (h : storeFree o d = true) : o.guard = none ∧ o.dst = none ∧ ∃ t x y, o.op = .store t x y ∧ x ≠ .tmp d ∧ y ≠ .tmp d := by
  unfold storeFree at h
  split at h
  · rename_i h1 h2 h3
    split at h
    · rename_i h4 h5
      refine ⟨h1, h2, _, _, _, h3, ?_, ?_⟩
      · rintro rfl; simp [readsT] at h4
      · rintro rfl; simp [readsT] at h5
    · cases h
  · cases h

/-- What is still to be done to 'a' to make it 'b': the parts that are not yet taken, of those before place n. -/
structure Rl (ops : Array Oper) (n : Nat) (d : Array Bool) (a b : Act) : Prop where
  size : a.tmps.size = b.tmps.size
  df : a.defers = b.defers
  same : ∀ t : Nat, (∀ j o, j < n → ¬ Done d j → ops[j]? = some o → o.dst ≠ some t) → a.tmps[t]? = b.tmps[t]?
  val : ∀ j o, j < n → ¬ Done d j → ops[j]? = some o → ∃ x i t vs v, o.op = .extract (.tmp x) i ∧ o.guard = none ∧ o.dst = some t ∧ a.eval (.tmp x) = .tuple vs ∧ vs[i]? = some v ∧ (t < b.tmps.size → b.tmps[t]? = some v)

theorem extract_run (P : Program) (w : World) {o : Oper} {x : Operand} {i : Nat} (ho : o.op = .extract x i) (ρ : Operand → Value) {vs : Array Value} {v : Value} (hx : ρ x = .tuple vs) (hv : vs[i]? = some v) :
    (execOp ρ o).run P w = .ok (.value v) w := by
  simp only [execOp, ho, Instr.extract, hx, hv, Sem.run_bind, Sem.run_pure, Result.andThen_ok]
theorem eval_put_ne {a : Act} {t t' : Tmp} (h : t' ≠ t) (v : Value) : (a.put (some t) v).eval (.tmp t') = a.eval (.tmp t') := by
  simp only [Act.eval, Act.put, Array.getD_eq_getD_getElem?, Array.getElem?_setIfInBounds]
  rw [if_neg (fun e => h e.symm)]
/-- One part is taken. -/
theorem Rl.step {n : Nat} {d : Array Bool} {b : Act} (h : Rl ops n d a b) (hnd : noDup ops.toList = true) (hsrc : ∀ j j' o o' x i t, j < n → j' < n → ¬ Done d j → ¬ Done d j' → ops[j]? = some o → ops[j']? = some o' → o.op = .extract (.tmp x) i → o'.dst = some t → x ≠ t)
    {i : Nat} {o : Oper} (hid : i < d.size) (hi : i < n) (hndi : ¬ Done d i) (ho : ops[i]? = some o) :
    ∃ v, (∀ (P : Program) (w : World), (execOp a.eval o).run P w = .ok (.value v) w) ∧ o.guard = none ∧ Rl ops n (d.setIfInBounds i true) (a.put o.dst v) b := by
  obtain ⟨x, k, t, vs, v, h1, h2, h3, h4, h5, h6⟩ := h.val i o hi hndi ho
  have hund : ∀ j, ¬ Done (d.setIfInBounds i true) j → ¬ Done d j ∧ j ≠ i := fun j hj => ⟨fun e => hj ((done_set hid).2 (.inr e)), fun e => hj ((done_set hid).2 (.inl e))⟩
  refine ⟨v, fun P w => extract_run P w h1 a.eval h4 h5, h2, ⟨?_, (put_defers a _ _).trans h.df, fun t' ht' => ?_, fun j o' hj hdj hoj => ?_⟩⟩
  · rw [h3]; simp [Act.put, h.size]
  · rw [h3]
    simp only [Act.put, Array.getElem?_setIfInBounds]
    split
    · rename_i e
      subst e
      rw [h.size]
      split
      · rename_i hlt; exact (h6 hlt).symm
      · rename_i hlt; exact (Array.getElem?_eq_none (by omega)).symm
    · rename_i hne
      refine h.same t' fun j o' hj hdj hoj => ?_
      by_cases hji : j = i
      · subst hji
        rw [ho] at hoj; cases hoj
        rw [h3]; exact fun e => hne (Option.some.inj e)
      · exact ht' j o' hj (fun e => by rcases (done_set hid).1 e with e | e
                                       · exact hji e
                                       · exact hdj e) hoj
  · obtain ⟨hdj', hji⟩ := hund j hdj
    obtain ⟨x', k', t', vs', v', g1, g2, g3, g4, g5, g6⟩ := h.val j o' hj hdj' hoj
    refine ⟨x', k', t', vs', v', g1, g2, g3, ?_, g5, g6⟩
    rw [h3, eval_put_ne (hsrc j i o' o x' k' t hj hi hdj' hndi hoj ho g1 h3)]
    exact g4
theorem Rl.done {n : Nat} {d : Array Bool} {b : Act} (h : Rl ops n d a b) (hd : ∀ j, j < n → Done d j) : a = b := by
  obtain ⟨ta, da⟩ := a
  obtain ⟨tb, db⟩ := b
  have h1 : ta = tb := Array.ext_getElem? fun t => h.same t fun j o hj hnj _ => absurd (hd j hj) hnj
  have h2 : da = db := h.df
  rw [h1, h2]

/-- Behind the store: the rest of the parts are taken. -/
theorem loose_rest (hH : HndOk P E H) (hN : Named P) (he : edgesOk ops.toList 0 = true) (hnd : noDup ops.toList = true) {n : Nat} (hn : n < ops.size) (hk : sinksOk (ancs ops.toList []) (n + 1) (ops.size - (n + 1)) = true)
    {b : Act} (h : RepS E β w0 σ b w) (hs : (seqOps H P ops.toList (ops.toList.drop (n + 1)) σ).sel E = some σ') (hQ : ∀ β' a' w', Ext β β' σ.nxt σ'.nxt → RepS E β' w0 σ' a' w' → Q .normal a' w') :
    ∀ (fuel : Nat) {d : Array Bool} {a : Act}, d.size = ops.size → undone d ops.size = fuel → Closed (ancs ops.toList []) d → (∀ j, Done d j → j < n + 1) → Done d n →
      (∀ j j' o o' x i t, j < n → j' < n → ¬ Done d j → ¬ Done d j' → ops[j]? = some o → ops[j']? = some o' → o.op = .extract (.tmp x) i → o'.dst = some t → x ≠ t) →
      Rl ops n d a b → wpAny P .any ops Q fuel d a w := by
  intro fuel
  induction fuel with
  | zero =>
    intro d a hd hu hc hlt hdn hsrc hR
    have hall := undone_zero hu
    have e := hR.done fun j hj => hall j (by omega)
    subst e
    have hiff : ∀ j, Done d j ↔ j < n + 1 := fun j => ⟨hlt j, fun h => hall j (by omega)⟩
    have := undone_eq hiff ops.size
    exact seq_any hH hN he hk 0 (n + 1) (by omega) (Nat.le_refl _) hd hiff h hs hQ
  | succ fuel ih =>
    intro d a hd hu hc hlt hdn hsrc hR
    by_cases hall : ∀ j, j < n → Done d j
    · have e := hR.done hall
      subst e
      have hiff : ∀ j, Done d j ↔ j < n + 1 := fun j => ⟨hlt j, fun h => by
        rcases Nat.lt_or_ge j n with h1 | h1
        · exact hall j h1
        · have : j = n := by omega
          subst this; exact hdn⟩
      have := undone_eq hiff ops.size
      exact seq_any hH hN he hk (fuel + 1) (n + 1) (by omega) (Nat.le_refl _) hd hiff h hs hQ
    · simp only [Classical.not_forall] at hall
      obtain ⟨j, hj, hjn⟩ := hall
      refine ⟨fun hnil => absurd hnil (ready_some hd he (j := j) (by omega) hjn), fun i hi => ?_⟩
      obtain ⟨o, ho, hndi, _⟩ := (ready_iff hd).1 hi
      have hin := (Array.getElem?_eq_some_iff.1 ho).1
      have hil : i < n := by
        rcases Nat.lt_or_ge i n with h1 | h1
        · exact h1
        · rcases Nat.lt_or_ge n i with h2 | h2
          · exact absurd (ready_anc hd he hc hi (sinks_bit hk i h2 (by omega) j (by omega))) hjn
          · have : i = n := by omega
            subst this; exact absurd hdn hndi
      obtain ⟨v, h1, h2, h3⟩ := hR.step hnd hsrc (by omega) hil hndi ho
      unfold wpOp
      have hw : Region.wanted o (yielded ops a.tmps) = true := by unfold Region.wanted; rw [h2]
      simp only [ho, hw, if_true]
      left
      unfold Oper.wp
      rw [h1 P w]
      have hund : ∀ q, ¬ Done (d.setIfInBounds i true) q → ¬ Done d q := fun q hq e => hq ((done_set (by omega)).2 (.inr e))
      refine ih (by simpa using hd) ?_ (closed_set (by omega) hc (fun q hq => ready_anc hd he hc hi hq)) (fun q hq => ?_) ((done_set (by omega)).2 (.inr hdn)) (fun p p' o1 o2 x k t g1 g2 g3 g4 => hsrc p p' o1 o2 x k t g1 g2 (hund p g3) (hund p' g4)) h3
      · have := (undone_set (by omega : i < d.size) hndi ops.size).2 hin
        omega
      · rcases (done_set (by omega)).1 hq with rfl | hq
        · omega
        · exact hlt q hq

/-- Before the store: what it will be when the rest of the parts are taken. -/
theorem loose_pre (hH : HndOk P E H) (hN : Named P) (he : edgesOk ops.toList 0 = true) (hnd : noDup ops.toList = true) {full : List DR} (hkn : full.length ≤ ops.size) {m : Mm} {KK : List Nat} (hm : m = ⟨dropK KK σ.own ++ σ.ro, σ.nxt, σ.lim, σ.sz⟩) (huse : UsesOk KK σ.nxt full) (hlim : σ.nxt + full.length * σ.sz ≤ σ.lim)
    (hfull : ∀ (k : Nat) (o : Oper), k < full.length → ops[k]? = some o → ∃ dr, full[k]? = some dr ∧ OpDone P E H ops.toList (ancs ops.toList []) σ.own m σ.tm (full.take k) k o dr) :
    ∀ (fuel : Nat) {d : Array Bool} {β : Pl} {a : Act}, d.size = ops.size → undone d ops.size = fuel → Closed (ancs ops.toList []) d → (∀ j, Done d j → j < full.length) → Mid E β0 β w0 σ ops.toList full d a w →
      (∀ j, j < full.length → ¬ Done d j → ∃ o x t, ops[j]? = some o ∧ looseX o = some (t, x)) →
      (∀ j j' o o' x i t, j < full.length → j' < full.length → ¬ Done d j → ¬ Done d j' → ops[j]? = some o → ops[j']? = some o' → o.op = .extract (.tmp x) i → o'.dst = some t → x ≠ t) →
      ∃ d' β' b, d'.size = ops.size ∧ (∀ j, Done d' j ↔ j < full.length) ∧ Mid E β0 β' w0 σ ops.toList full d' b w ∧ Rl ops full.length d a b := by
  intro fuel
  induction fuel with
  | zero =>
    intro d β a hd hu hc hlt hmid hl hsrc
    have hall := undone_zero hu
    have hiff : ∀ j, Done d j ↔ j < full.length := fun j => ⟨hlt j, fun h => hall j (by omega)⟩
    exact ⟨d, β, a, hd, hiff, hmid, rfl, rfl, fun _ _ => rfl, fun j o hj hnj _ => absurd ((hiff j).2 hj) hnj⟩
  | succ fuel ih =>
    intro d β a hd hu hc hlt hmid hl hsrc
    by_cases hall : ∀ j, j < full.length → Done d j
    · have hiff : ∀ j, Done d j ↔ j < full.length := fun j => ⟨hlt j, hall j⟩
      exact ⟨d, β, a, hd, hiff, hmid, rfl, rfl, fun _ _ => rfl, fun j o hj hnj _ => absurd ((hiff j).2 hj) hnj⟩
    · simp only [Classical.not_forall] at hall
      obtain ⟨j0, hj0, hjn0⟩ := hall
      -- the least that is not done
      have hleast : ∃ k, k < full.length ∧ ¬ Done d k ∧ ∀ q, q < k → Done d q := by
        induction j0 using Nat.strongRecOn with
        | _ j ihj =>
          by_cases h : ∀ q, q < j → Done d q
          · exact ⟨j, hj0, hjn0, h⟩
          · simp only [Classical.not_forall] at h
            obtain ⟨q, hq, hnq⟩ := h
            exact ihj q hq (by omega) hnq
      obtain ⟨k, hk, hnk, hbefore⟩ := hleast
      obtain ⟨o, x, t, ho, hx⟩ := hl k hk hnk
      obtain ⟨hgd, hdst, i, hop⟩ := looseX_eq hx
      have hkd : k < d.size := by omega
      have hready : k ∈ Region.ready .any ops d := (ready_iff hd).2 ⟨o, ho, hnk, fun e hm hb => hbefore _ (edges_lt he (by simpa using ho) hm hb)⟩
      have hstep := hmid.step (a := a) hH hN he hnd hm huse hlim hfull hd hc hk hready (fun a' w' => ∃ β', Mid E β0 β' w0 σ ops.toList full (d.setIfInBounds k true) a' w') (fun _ _ _ => False) (fun β' a' w' h => ⟨β', h⟩)
      unfold wpOp at hstep
      have hw : Region.wanted o (yielded ops a.tmps) = true := by unfold Region.wanted; rw [hgd]
      simp only [ho, hw, if_true] at hstep
      rcases hstep with hstep | ⟨_, _, _, hf⟩
      · -- what the slot holds
        have hrun : ∃ vs v, a.eval (.tmp x) = .tuple vs ∧ vs[i]? = some v ∧ ∃ β', Mid E β0 β' w0 σ ops.toList full (d.setIfInBounds k true) (a.put o.dst v) w := by
          unfold Oper.wp at hstep
          simp only [execOp, hop, Instr.extract] at hstep
          split at hstep
          · rename_i vs hvs
            split at hstep
            · rename_i v hv
              simp only [Sem.run_bind, Sem.run_pure, Result.andThen_ok] at hstep
              exact ⟨vs, v, hvs, hv, hstep⟩
            · simp [stuck, Oper.upon] at hstep
          · simp [stuck, Oper.upon] at hstep
        obtain ⟨vs, v, hvs, hv, β', hmid'⟩ := hrun
        have hund : ∀ q, ¬ Done (d.setIfInBounds k true) q → ¬ Done d q := fun q hq e => hq ((done_set hkd).2 (.inr e))
        obtain ⟨d', β2, b, g1, g2, g3, g4⟩ := ih (a := a.put o.dst v) (by simpa using hd) (by
            have := (undone_set hkd hnk ops.size).2 (by omega)
            omega) (closed_set hkd hc (fun q hq => ready_anc hd he hc hready hq)) (fun q hq => by
            rcases (done_set hkd).1 hq with rfl | hq
            · exact hk
            · exact hlt q hq) hmid' (fun q hq hnq => hl q hq (hund q hnq)) (fun p p' o1 o2 x k t g1 g2 g3 g4 => hsrc p p' o1 o2 x k t g1 g2 (hund p g3) (hund p' g4))
        refine ⟨d', β2, b, g1, g2, g3, ?_⟩
        have hother : ∀ q o', q < full.length → ¬ Done d q → q ≠ k → ops[q]? = some o' → o'.dst ≠ some t := fun q o' _ _ hqk hoq e => by
          have e1 := writer_at hnd (by simpa using hoq) e
          have e2 := writer_at hnd (by simpa using ho) hdst
          rw [e1] at e2
          exact hqk (Option.some.inj e2)
        have hsz : a.tmps.size = b.tmps.size := by have := g4.size; rw [hdst] at this; simpa [Act.put] using this
        have keep : ∀ t' : Nat, t' ≠ t → (a.put o.dst v).tmps[t']? = a.tmps[t']? := fun t' hne => by
          rw [hdst]
          simp only [Act.put, Array.getElem?_setIfInBounds]
          rw [if_neg (fun e => hne e.symm)]
        refine ⟨hsz, ((put_defers a _ _).symm).trans g4.df, fun t' ht' => ?_, fun q o' hq hnq hoq => ?_⟩
        · have hne : t' ≠ t := fun e => ht' k o hk hnk ho (by rw [hdst, e])
          rw [← keep t' hne]
          exact g4.same t' fun j o' hj hnj hoj => ht' j o' hj (hund j hnj) hoj
        · by_cases hqk : q = k
          · subst hqk
            rw [ho] at hoq; cases hoq
            refine ⟨x, i, t, vs, v, hop, hgd, hdst, hvs, hv, fun hlt => ?_⟩
            rw [← g4.same t (fun j o' hj hnj hoj => hother j o' hj (hund j hnj) (fun e => hnj ((done_set hkd).2 (.inl e))) hoj)]
            rw [hdst]
            simp only [Act.put, Array.getElem?_setIfInBounds]
            simp [hsz, hlt]
          · obtain ⟨x', i', t', vs', v', e1, e2, e3, e4, e5, e6⟩ := g4.val q o' hq (fun e => by
              rcases (done_set hkd).1 e with e | e
              · exact hqk e
              · exact hnq e) hoq
            refine ⟨x', i', t', vs', v', e1, e2, e3, ?_, e5, e6⟩
            rw [hdst, eval_put_ne (hsrc q k o' o x' i' t hq hk hnq hnk hoq ho e1 hdst)] at e4
            exact e4
      · exact hf.elim

theorem eval_rl {n : Nat} {d : Array Bool} {b : Act} (h : Rl ops n d a b) {x : Operand} (hx : ∀ j o t, j < n → ¬ Done d j → ops[j]? = some o → o.dst = some t → x ≠ .tmp t) : a.eval x = b.eval x := by
  cases x with
  | tmp t =>
    have := h.same t fun j o hj hnj ho e => hx j o t hj hnj ho e rfl
    simp only [Act.eval, Array.getD_eq_getD_getElem?, this]
  | const v => rfl
  | global g => rfl
  | func f => rfl

theorem mid_loose (hH : HndOk P E H) (hN : Named P) (he : edgesOk ops.toList 0 = true) (hnd : noDup ops.toList = true) {full : List DR} {pc : PC} (hp : PcOk E pc) (hkn : full.length < ops.size)
    (hk : sinksOk (ancs ops.toList []) (full.length + 1) (ops.size - (full.length + 1)) = true) (hl : looseOk ops.toList (ancs ops.toList []) full.length = true) {m : Mm} {KK : List Nat} (hm : m = ⟨dropK KK σ.own ++ σ.ro, σ.nxt, σ.lim, σ.sz⟩) (huse : UsesOk KK σ.nxt full) (hlim : σ.nxt + full.length * σ.sz ≤ σ.lim)
    (hfull : ∀ (k : Nat) (o : Oper), k < full.length → ops[k]? = some o → ∃ dr, full[k]? = some dr ∧ OpDone P E H ops.toList (ancs ops.toList []) σ.own m σ.tm (full.take k) k o dr)
    (hs : (seqOps H P ops.toList (ops.toList.drop full.length) { σ with tm := putAll σ.tm full, own := memAll (dropK KK σ.own) full, nxt := σ.nxt + full.length * σ.sz, pc := pc }).sel E = some σ') :
    ∀ (fuel : Nat) {d : Array Bool} {β : Pl} {a : Act} {w : World}, d.size = ops.size → undone d ops.size = fuel → Closed (ancs ops.toList []) d → (∀ j, Done d j → j < full.length) → Mid E β0 β w0 σ ops.toList full d a w →
      (∀ β' a' w', Ext β0 β' σ.nxt σ'.nxt → RepS E β' w0 σ' a' w' → Q .normal a' w') → wpAny P .any ops Q fuel d a w := by
  intro fuel
  induction fuel with
  | zero =>
    intro d β a w hd hu hc hlt hmid hQ
    have := hlt full.length (undone_zero hu _ hkn)
    omega
  | succ fuel ih =>
    intro d β a w hd hu hc hlt hmid hQ
    have hnn : ¬ Done d full.length := fun h => by have := hlt _ h; omega
    refine ⟨fun hnil => absurd hnil (ready_some hd he (j := full.length) hkn hnn), fun i hi => ?_⟩
    obtain ⟨o, ho, hndi, _⟩ := (ready_iff hd).1 hi
    have hin := (Array.getElem?_eq_some_iff.1 ho).1
    rcases Nat.lt_or_ge i full.length with hil | hil
    · refine hmid.step hH hN he hnd hm huse hlim hfull hd hc hil hi _ Q fun β' a' w' hmid' => ?_
      refine ih (by simpa using hd) ?_ (closed_set (by omega) hc (fun q hq => ready_anc hd he hc hi hq)) (fun q hq => ?_) hmid' hQ
      · have := (undone_set (by omega : i < d.size) hndi ops.size).2 hin
        omega
      · rcases (done_set (by omega)).1 hq with rfl | hq
        · exact hil
        · exact hlt q hq
    · have hin' : i = full.length := by
        rcases Nat.lt_or_ge full.length i with h2 | h2
        · exact absurd (ready_anc hd he hc hi (sinks_bit hk i h2 (by omega) full.length h2)) hnn
        · omega
      subst hin'
      -- the store comes up
      unfold looseOk at hl
      rw [nth?_get, Array.getElem?_toList, ho] at hl
      simp only at hl
      have hbits : ∀ q, q < full.length → ¬ Done d q → (anc (ancs ops.toList []) full.length).testBit q = false := fun q hq hnq => by
        cases hb : (anc (ancs ops.toList []) full.length).testBit q
        · rfl
        · exact absurd (ready_anc hd he hc hi hb) hnq
      have hloose : ∀ q, q < full.length → ¬ Done d q → ∃ o' x t, ops[q]? = some o' ∧ looseX o' = some (t, x) ∧ storeFree o t = true ∧
          (∀ p, p < full.length → ¬ Done d p → ∃ o2 x2 t2, ops[p]? = some o2 ∧ looseX o2 = some (t2, x2) ∧ x2 ≠ t) := fun q hq hnq => by
        obtain ⟨o', t, x, h1, h2, h3⟩ := looseAll_at hl q hq (hbits q hq hnq)
        split at h3
        · rename_i hsf
          refine ⟨o', x, t, by simpa using h1, h2, hsf, fun p hp hnp => ?_⟩
          obtain ⟨o2, t2, x2, g1, g2, g3⟩ := looseAll_at h3 p hp (hbits p hp hnp)
          refine ⟨o2, x2, t2, by simpa using g1, g2, fun e => ?_⟩
          subst e
          simp at g3
        · cases h3
      have hsrc : ∀ j j' o o' x i t, j < full.length → j' < full.length → ¬ Done d j → ¬ Done d j' → ops[j]? = some o → ops[j']? = some o' → o.op = .extract (.tmp x) i → o'.dst = some t → x ≠ t := by
        intro j j' o1 o2 x k t hj hj' hnj hnj' h1 h2 h3 h4
        obtain ⟨o2', x2, t2, g1, g2, _, g4⟩ := hloose j' hj' hnj'
        rw [h2] at g1; cases g1
        obtain ⟨_, g5, _⟩ := looseX_eq g2
        rw [h4] at g5; cases g5
        obtain ⟨o1', x1, t1, k1, k2, k3⟩ := g4 j hj hnj
        rw [h1] at k1; cases k1
        obtain ⟨_, _, k4, k5⟩ := looseX_eq k2
        rw [h3] at k5; cases k5
        exact k3
      obtain ⟨d', β1, b, g1, g2, g3, g4⟩ := loose_pre hH hN he hnd (by omega) hm huse hlim hfull (fuel + 1) hd hu hc hlt hmid (fun q hq hnq => by
        obtain ⟨o', x, t, h1, h2, _⟩ := hloose q hq hnq
        exact ⟨o', x, t, h1, h2⟩) hsrc
      have hrep := g3.rep huse hp hnd hlim g2 (fun k dr h => by
        have hkl := (List.getElem?_eq_some_iff.1 h).1
        have ho : ops[k]? = some ops[k] := Array.getElem?_eq_getElem (by omega)
        obtain ⟨dr', h1, h2⟩ := hfull k _ hkl ho
        rw [h] at h1; cases h1
        exact ⟨_, ho, h2.dst⟩)
      have hdrop : ops.toList.drop full.length = o :: ops.toList.drop (full.length + 1) := by
        rw [List.drop_eq_getElem_cons (by simpa using hkn)]
        congr 1
        rw [Array.getElem_toList]
        rw [Array.getElem?_eq_getElem hkn] at ho
        exact Option.some.inj ho
      rw [hdrop] at hs
      simp only [seqOps, fList_eq] at hs
      obtain ⟨σ1, hs1, hs2⟩ := Out.sel_bind_some hs
      by_cases hall : ∀ j, j < full.length → Done d j
      · have e := g4.done hall
        subst e
        refine stepG_wp hH hN ho hrep hs1 _ Q fun β' a' w' hle hr => ?_
        refine seq_any hH hN he hk fuel (full.length + 1) ?_ (Nat.le_refl _) (by simpa using hd) (fun j => ?_) hr hs2 (fun β2 a2 w2 hle2 hrep2 => hQ β2 a2 w2 (Ext.trans g3.ext (Ext.trans hle hle2)) hrep2)
        · have := undone_eq (d := d) (kk := full.length) (fun j => ⟨hlt j, hall j⟩) ops.size
          omega
        · rw [done_set (by omega)]
          constructor
          · rintro (rfl | h)
            · omega
            · have := hlt j h; omega
          · intro h
            rcases Nat.lt_or_ge j full.length with h1 | h1
            · exact .inr (hall j h1)
            · exact .inl (by omega)
      · simp only [Classical.not_forall] at hall
        obtain ⟨q0, hq0, hnq0⟩ := hall
        obtain ⟨_, _, _, _, _, hsf0, _⟩ := hloose q0 hq0 hnq0
        obtain ⟨hg, hdst, ty, x, y, hop, _, _⟩ := storeFree_eq hsf0
        have hxy : ∀ j o' t, j < full.length → ¬ Done d j → ops[j]? = some o' → o'.dst = some t → x ≠ .tmp t ∧ y ≠ .tmp t := by
          intro j o' t hj hnj h1 h2
          obtain ⟨o2, x2, t2, k1, k2, k3, _⟩ := hloose j hj hnj
          rw [h1] at k1; cases k1
          obtain ⟨_, k4, _⟩ := looseX_eq k2
          rw [h2] at k4; cases k4
          obtain ⟨_, _, ty', x', y', k5, k6, k7⟩ := storeFree_eq k3
          rw [hop] at k5; cases k5
          exact ⟨k6, k7⟩
        have hstep := stepG_wp hH hN ho hrep hs1 (fun a' w' => ∃ β', Ext β1 β' (σ.nxt + full.length * σ.sz) σ1.nxt ∧ RepS E β' w0 σ1 a' w') (fun _ _ _ => False) (fun β' a' w' hle hr => ⟨β', hle, hr⟩)
        have hexec : execOp a.eval o = execOp b.eval o := by
          simp only [execOp, hop]
          rw [eval_rl g4 (fun j o' t h1 h2 h3 h4 => (hxy j o' t h1 h2 h3 h4).1), eval_rl g4 (fun j o' t h1 h2 h3 h4 => (hxy j o' t h1 h2 h3 h4).2)]
        have hw : ∀ a : Act, Region.wanted o (yielded ops a.tmps) = true := fun a => by unfold Region.wanted; rw [hg]
        unfold wpOp at hstep ⊢
        simp only [ho, hw, if_true] at hstep ⊢
        rcases hstep with hstep | ⟨_, _, _, hf⟩
        · left
          unfold Oper.wp at hstep ⊢
          rw [hexec]
          have hrun : ∃ w1, (execOp b.eval o).run P w = .ok .skip w1 := by
            revert hstep
            simp only [execOp, hop, Sem.run_bind, Sem.run_pure]
            cases hst : (Instr.storeAt ty (b.eval x) (b.eval y)).run P w with
            | ok u w1 => intro _; exact ⟨w1, rfl⟩
            | halt e w1 => intro h; cases e <;> exact h.elim
          obtain ⟨w1, hrun⟩ := hrun
          rw [hrun] at hstep ⊢
          simp only [Oper.upon, hdst, Act.put] at hstep ⊢
          obtain ⟨β2, hle, hr⟩ := hstep
          have hund : ∀ q, q < full.length → ¬ Done (d.setIfInBounds full.length true) q → ¬ Done d q := fun q _ hq e => hq ((done_set (by omega)).2 (.inr e))
          have hund' : ∀ q, q < full.length → ¬ Done d q → ¬ Done (d.setIfInBounds full.length true) q := fun q hq hnq e => by
            rcases (done_set (by omega)).1 e with e | e
            · omega
            · exact hnq e
          refine loose_rest hH hN he hnd hkn hk hr hs2 (fun β3 a3 w3 hle3 hr3 => hQ β3 a3 w3 (Ext.trans g3.ext (Ext.trans hle hle3)) hr3) fuel (by simpa using hd) ?_ (closed_set (by omega) hc (fun q hq => ready_anc hd he hc hi hq)) (fun q hq => ?_) ((done_set (by omega)).2 (.inl rfl))
            (fun p p' o1 o2 x k t k1 k2 k3 k4 => hsrc p p' o1 o2 x k t k1 k2 (hund p k1 k3) (hund p' k2 k4)) ⟨g4.size, g4.df, fun t ht => g4.same t fun j o' hj hnj hoj => ht j o' hj (hund' j hj hnj) hoj, fun j o' hj hnj hoj => g4.val j o' hj (hund j hj hnj) hoj⟩
          · have := (undone_set (by omega : full.length < d.size) hndi ops.size).2 hin
            omega
          · rcases (done_set (by omega)).1 hq with rfl | hq
            · omega
            · have := hlt q hq; omega
        · exact hf.elim

theorem mid_sinks (hH : HndOk P E H) (hN : Named P) (he : edgesOk ops.toList 0 = true) (hnd : noDup ops.toList = true) {full : List DR} {pc : PC} (hp : PcOk E pc) (hkn : full.length ≤ ops.size)
    (hk : sinksL ops.toList (ancs ops.toList []) full.length (ops.size - full.length) = true) {m : Mm} {KK : List Nat} (hm : m = ⟨dropK KK σ.own ++ σ.ro, σ.nxt, σ.lim, σ.sz⟩) (huse : UsesOk KK σ.nxt full) (hlim : σ.nxt + full.length * σ.sz ≤ σ.lim)
    (hfull : ∀ (k : Nat) (o : Oper), k < full.length → ops[k]? = some o → ∃ dr, full[k]? = some dr ∧ OpDone P E H ops.toList (ancs ops.toList []) σ.own m σ.tm (full.take k) k o dr)
    (hs : (seqOps H P ops.toList (ops.toList.drop full.length) { σ with tm := putAll σ.tm full, own := memAll (dropK KK σ.own) full, nxt := σ.nxt + full.length * σ.sz, pc := pc }).sel E = some σ')
    (fuel : Nat) {d : Array Bool} {β : Pl} {a : Act} {w : World} (hd : d.size = ops.size) (hu : undone d ops.size = fuel) (hc : Closed (ancs ops.toList []) d) (hlt : ∀ j, Done d j → j < full.length) (hmid : Mid E β0 β w0 σ ops.toList full d a w)
      (hQ : ∀ β' a' w', Ext β0 β' σ.nxt σ'.nxt → RepS E β' w0 σ' a' w' → Q .normal a' w') : wpAny P .any ops Q fuel d a w := by
  unfold sinksL at hk
  split at hk
  · rename_i hk1; exact mid_any hH hN he hnd hp hkn hk1 hm huse hlim hfull hs fuel hd hu hc hlt hmid hQ
  · split at hk
    · cases hk
    · rename_i n hn
      split at hk
      · rename_i hk1
        exact mid_loose hH hN he hnd hp (by omega) (by have : ops.size - (full.length + 1) = n := by omega
                                                       rw [this]; exact hk1) hk hm huse hlim hfull hs fuel hd hu hc hlt hmid hQ
      · cases hk

theorem regionK_any (hH : HndOk P E H) (hHp : HndPc E H) (hN : Named P) (h : RepS E β w0 σ a w) (he : edgesOk ops.toList 0 = true) (hnd : noDup ops.toList = true)
    {KK : List Nat} {kk : Nat} (hkk : kk ≤ ops.size) (hk : sinksL ops.toList (ancs ops.toList []) kk (ops.size - kk) = true) (hlim : σ.nxt + kk * σ.sz ≤ σ.lim)
    (hs : (regionK H P ops.toList KK kk σ).sel E = some σ') (hQ : ∀ β' a' w', Ext β β' σ.nxt σ'.nxt → RepS E β' w0 σ' a' w' → Q .normal a' w') : wpAny P .any ops Q ops.size (Array.replicate ops.size false) a w := by
  unfold regionK at hs
  simp only [fList_eq] at hs
  obtain ⟨x, hx, hs⟩ := Out.sel_bind_some hs
  split at hs
  · rename_i huse0
    obtain ⟨huse, _⟩ := usesOk_ok huse0
    obtain ⟨hp, full, h1, h2, h3⟩ := drawOps_sel (done := []) hHp _ h.pc hx
    simp only [List.nil_append, List.length_nil, Nat.zero_add] at h1 h3
    have hlen : full.length = kk := by
      rw [h2, List.length_take]; simp; omega
    rw [h1] at huse hs
    rw [← hlen] at hs hlim hkk hk
    refine mid_sinks hH hN he hnd hp hkk hk rfl huse hlim (fun k o hkl ho => ?_) hs ops.size (by simp) (undone_none _ _ (Nat.le_refl _)) (fun j hj => ?_) (fun j hj => ?_) ⟨⟨?_, fun t v hv => .inr ⟨fun j _ hj => ?_, ?_⟩⟩, h.df, ⟨σ.own, h.own, fun _ hx _ => hx, fun j dr hj => ?_⟩, fun i hi _ => ?_, ?_, h.below, h.ro, (Ext.refl _ _).more (Nat.le_add_right _ _)⟩ hQ
    · exact h3 k o (by rw [List.getElem?_take, if_pos (by omega), Array.getElem?_toList]; exact ho)
    · unfold Done at hj; rw [Array.getElem?_replicate] at hj; split at hj <;> cases hj
    · unfold Done at hj; rw [Array.getElem?_replicate] at hj; split at hj <;> cases hj
    · have := reps_length h.tm; simpa using this
    · unfold Done at hj; rw [Array.getElem?_replicate] at hj; split at hj <;> cases hj
    · have hlt : t < σ.tm.length := by
        have h4 := (Array.getElem?_eq_some_iff.1 hv).1
        have h5 := reps_length h.tm
        rw [Array.length_toList] at h5; omega
      obtain ⟨v', hv', hr⟩ := reps_get h.tm (List.getElem?_eq_getElem hlt)
      rw [Array.getElem?_toList, hv] at hv'
      cases hv'
      rw [List.getD_eq_getElem?_getD, List.getElem?_eq_getElem hlt]; exact hr
    · unfold Done at hj; rw [Array.getElem?_replicate] at hj; split at hj <;> cases hj
    · intro j hj1 hj2
      have : (i + 1) * σ.sz ≤ full.length * σ.sz := Nat.mul_le_mul_right _ hi
      rw [Nat.succ_mul] at this
      exact h.fresh j (by omega) (by omega)
    · intro j hj1 hj2
      exact h.fresh j (by omega) hj2
  · cases hs
end
end Go.Sx
