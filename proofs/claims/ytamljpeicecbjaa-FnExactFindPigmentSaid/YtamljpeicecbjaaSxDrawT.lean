/- The symbolic executor is sound, sixth part: regions. No condition. -/
import Derived.Test.YtamljpeicecbjaaSxDrawS
set_option linter.unusedVariables false
set_option linter.unusedSimpArgs false
namespace Go.Sx
open Go Go.RowKit

/-- How many of the first n are not done. -/
def undone (d : Array Bool) : Nat → Nat
  | 0 => 0
  | n + 1 => undone d n + (if d[n]? = some true then 0 else 1)
theorem undone_set {d : Array Bool} {i : Nat} (hi : i < d.size) (hn : ¬ Done d i) : ∀ n, (n ≤ i → undone (d.setIfInBounds i true) n = undone d n) ∧ (i < n → undone (d.setIfInBounds i true) n + 1 = undone d n)
  | 0 => ⟨fun _ => rfl, fun h => by omega⟩
  | n + 1 => by
    obtain ⟨h1, h2⟩ := undone_set hi hn n
    have hne : n ≠ i → (d.setIfInBounds i true)[n]? = d[n]? := fun h => by rw [Array.getElem?_setIfInBounds, if_neg (Ne.symm h)]
    refine ⟨fun h => ?_, fun h => ?_⟩
    · simp only [undone]; rw [h1 (by omega), hne (by omega)]
    · simp only [undone]
      rcases Nat.lt_or_ge i n with hlt | hge
      · have := h2 hlt
        rw [hne (by omega)]; omega
      · have e : n = i := by omega
        subst e
        rw [h1 (Nat.le_refl _)]
        have : (d.setIfInBounds n true)[n]? = some true := by simp [hi]
        rw [this]
        simp only [if_true]
        rw [if_neg (show ¬ d[n]? = some true from hn)]
theorem undone_zero {d : Array Bool} : ∀ {n : Nat}, undone d n = 0 → ∀ j, j < n → Done d j
  | 0, _, j, h => by omega
  | n + 1, h, j, hj => by
    simp only [undone] at h
    rcases Nat.lt_or_ge j n with hlt | hge
    · exact undone_zero (by omega) j hlt
    · have : j = n := by omega
      subst this
      by_cases hd : d[j]? = some true
      · exact hd
      · rw [if_neg hd] at h; omega
theorem undone_eq {d : Array Bool} {kk : Nat} (h : ∀ j, Done d j ↔ j < kk) : ∀ n, undone d n = n - kk
  | 0 => by simp [undone]
  | n + 1 => by
    have ih := undone_eq h n
    simp only [undone]
    by_cases hn : n < kk
    · rw [if_pos (show d[n]? = some true from (h n).2 hn)]; omega
    · rw [if_neg (show ¬ d[n]? = some true from fun e => hn ((h n).1 e))]; omega
theorem undone_none (n : Nat) : ∀ k, k ≤ n → undone (Array.replicate n false) k = k
  | 0, _ => rfl
  | k + 1, h => by
    simp only [undone]
    rw [undone_none n k (by omega), if_neg (by simp [Array.getElem?_replicate])]

theorem sinks_bit {as : List Nat} : ∀ {i n : Nat}, sinksOk as i n = true → ∀ k, i ≤ k → k < i + n → ∀ q, q < k → (anc as k).testBit q = true
  | i, 0, _, k, h1, h2, _, _ => by omega
  | i, n + 1, h, k, h1, h2, q, hq => by
    simp only [sinksOk] at h
    split at h
    · rename_i hb
      rcases Nat.lt_or_ge i k with hlt | hge
      · exact sinks_bit h k hlt (by omega) q hq
      · have e : k = i := by omega
        subst e
        have hb' := Nat.eq_of_beq_eq_true hb
        have h3 : (anc as k % 2 ^ k).testBit q = (2 ^ k - 1).testBit q := by unfold anc; rw [hb']
        rw [Nat.testBit_mod_two_pow, Nat.testBit_two_pow_sub_one] at h3
        simpa [hq] using h3
    · cases h

section
variable {P : Program} {E : Env} {H : Hnd} {β0 β : Pl} {w0 w : World} {σ σ' : St} {a : Act} {ops : Array Oper} {Q : Exit → Act → World → Prop}

/-- The operations behind the first that writes: one after the other. -/
theorem seq_any (hH : HndOk P E H) (hN : Named P) (he : edgesOk ops.toList 0 = true) {kk : Nat} (hk : sinksOk (ancs ops.toList []) kk (ops.size - kk) = true) : ∀ (m k : Nat) {d : Array Bool} {β : Pl} {σ : St} {a : Act} {w : World}, k + m = ops.size → kk ≤ k → d.size = ops.size →
    (∀ j, Done d j ↔ j < k) → RepS E β w0 σ a w → (seqOps H P ops.toList (ops.toList.drop k) σ).sel E = some σ' → (∀ β' a' w', Ext β β' σ.nxt σ'.nxt → RepS E β' w0 σ' a' w' → Q .normal a' w') →
    wpAny P .any ops Q m d a w
  | 0, k, d, β, σ, a, w, hkm, hkk, hd, hdn, h, hs, hQ => by
    refine ⟨?_, ?_⟩
    · cases hr : Region.ready .any ops d with
      | nil => rfl
      | cons i r =>
        have hi : i ∈ Region.ready .any ops d := by rw [hr]; exact List.mem_cons_self ..
        obtain ⟨o, ho, hnd, _⟩ := (ready_iff hd).1 hi
        have := (Array.getElem?_eq_some_iff.1 ho).1
        exact absurd ((hdn i).2 (by omega)) hnd
    · have : ops.toList.drop k = [] := List.drop_eq_nil_of_le (by simp; omega)
      rw [this] at hs
      simp only [seqOps, Out.sel, Option.some.injEq] at hs
      subst hs
      exact hQ β a w (Ext.refl _ _) h
  | m + 1, k, d, β, σ, a, w, hkm, hkk, hd, hdn, h, hs, hQ => by
    refine ⟨fun hnil => absurd hnil (ready_some hd he (j := k) (by omega) (fun e => by have := (hdn k).1 e; omega)), fun i hi => ?_⟩
    have hc : Closed (ancs ops.toList []) d := fun j hj q hq => by
      have := anc_lt he j hq
      have := (hdn j).1 hj
      exact (hdn q).2 (by omega)
    obtain ⟨o, ho, hnd, _⟩ := (ready_iff hd).1 hi
    have hlt := (Array.getElem?_eq_some_iff.1 ho).1
    have hik : i = k := by
      have h1 : ¬ i < k := fun e => hnd ((hdn i).2 e)
      rcases Nat.lt_or_ge k i with h2 | h2
      · have := ready_anc hd he hc hi (sinks_bit hk i (by omega) (by omega) k h2)
        have := (hdn k).1 this
        omega
      · omega
    subst hik
    have hdrop : ops.toList.drop i = o :: ops.toList.drop (i + 1) := by
      rw [List.drop_eq_getElem_cons (by simpa using hlt)]
      congr 1
      rw [Array.getElem_toList]
      rw [Array.getElem?_eq_getElem hlt] at ho
      exact Option.some.inj ho
    rw [hdrop] at hs
    simp only [seqOps] at hs
    obtain ⟨σ1, hs1, hs2⟩ := Out.sel_bind_some hs
    refine stepG_wp hH hN ho h hs1 _ Q fun β' a' w' hle hrep => ?_
    refine seq_any hH hN he hk m (i + 1) (by omega) (by omega) (by simpa using hd) (fun j => ?_) hrep hs2 (fun β2 a2 w2 hle2 hrep2 => hQ β2 a2 w2 (Ext.trans hle hle2) hrep2)
    rw [done_set (by omega), hdn j]
    omega

theorem putAll_get : ∀ {full : List DR} {tm : List SV} {t : Nat} {s : SV}, (putAll tm full)[t]? = some s →
    (∃ (j : Nat) (dr : DR), full[j]? = some dr ∧ dr.dst = some t ∧ (∀ (j' : Nat) (dr' : DR), j < j' → full[j']? = some dr' → dr'.dst ≠ some t) ∧ s = dr.v) ∨ ((∀ (j : Nat) (dr : DR), full[j]? = some dr → dr.dst ≠ some t) ∧ tm[t]? = some s)
  | [], tm, t, s, h => .inr ⟨fun j dr h => by simp at h, h⟩
  | x :: r, tm, t, s, h => by
    simp only [putAll] at h
    rcases putAll_get h with ⟨j, dr, h1, h2, h3, h4⟩ | ⟨h1, h2⟩
    · refine .inl ⟨j + 1, dr, by simpa using h1, h2, fun j' dr' hlt hj' => ?_, h4⟩
      cases j' with
      | zero => omega
      | succ j' => exact h3 j' dr' (by omega) (by simpa using hj')
    · by_cases hx : x.dst = some t
      · refine .inl ⟨0, x, by simp, hx, fun j' dr' hlt hj' => ?_, ?_⟩
        · cases j' with
          | zero => omega
          | succ j' => exact h1 j' dr' (by simpa using hj')
        · rw [hx] at h2
          simp only [putT] at h2
          rw [List.getElem?_set_self'] at h2
          cases hh : tm[t]? with
          | none => simp [hh] at h2
          | some y => simp [hh] at h2; exact h2.symm
      · refine .inr ⟨fun j dr hj => ?_, ?_⟩
        · cases j with
          | zero => simp at hj; subst hj; exact hx
          | succ j => exact h1 j dr (by simpa using hj)
        · cases hd : x.dst with
          | none => rw [hd] at h2; exact h2
          | some t' =>
            rw [hd] at h2 hx
            simp only [putT] at h2
            rw [List.getElem?_set_ne (fun e => hx (by rw [e]))] at h2
            exact h2
theorem putAll_length : ∀ (full : List DR) (tm : List SV), (putAll tm full).length = tm.length
  | [], tm => rfl
  | x :: r, tm => by
    simp only [putAll]
    rw [putAll_length r]
    cases x.dst <;> simp [putT]

theorem Mid.rep {full : List DR} {d : Array Bool} {pc : PC} (hp : PcOk E pc) (hnd : noDup ops.toList = true) (hlim : σ.nxt + full.length * σ.sz ≤ σ.lim) (hd : ∀ j, Done d j ↔ j < full.length)
    (hdst : ∀ (k : Nat) (dr : DR), full[k]? = some dr → ∃ o, ops[k]? = some o ∧ dr.dst = o.dst) (h : Mid E β0 β w0 σ ops.toList full d a w) :
    RepS E β w0 { σ with tm := putAll σ.tm full, own := memAll σ.own full, nxt := σ.nxt + full.length * σ.sz, pc := pc } a w := by
  obtain ⟨mem, hmem, hsub, hnb⟩ := h.own
  refine { tm := reps_iff.2 ⟨?_, fun t s hs => ?_⟩, df := h.df, own := hmem.sub fun x hx => ?_, fresh := h.rest, le := hlim, below := h.below, ro := h.ro, pc := hp }
  · rw [putAll_length, Array.length_toList]; exact h.tm.1
  · have hlt : t < a.tmps.size := by
      have := (List.getElem?_eq_some_iff.1 hs).1
      rw [putAll_length] at this
      rw [h.tm.1]; exact this
    refine ⟨a.tmps[t], by rw [Array.getElem?_toList]; exact Array.getElem?_eq_getElem hlt, ?_⟩
    rcases putAll_get hs with ⟨j, dr, h1, h2, _, rfl⟩ | ⟨h1, h2⟩
    · obtain ⟨o, ho, hod⟩ := hdst j dr h1
      have hw := writer_at hnd (by simpa using ho) (hod ▸ h2)
      have hjl := (List.getElem?_eq_some_iff.1 h1).1
      rcases h.tm.2 t _ (Array.getElem?_eq_getElem hlt) with ⟨j', dr', h3, _, h5, h6⟩ | ⟨h3, _⟩
      · rw [hw] at h3; cases h3
        rw [h1] at h5; cases h5
        exact h6
      · exact absurd ((hd j).2 hjl) (h3 j hw)
    · rcases h.tm.2 t _ (Array.getElem?_eq_getElem hlt) with ⟨j', dr', h3, h4, h5, _⟩ | ⟨_, h4⟩
      · obtain ⟨o, ho, hod⟩ := hdst j' dr' h5
        obtain ⟨_, o', ho', hd'⟩ := writer_some h3
        rw [Nat.sub_zero, Array.getElem?_toList, ho] at ho'
        cases ho'
        exact absurd (hod.trans hd') (h1 j' dr' h5)
      · rw [List.getD_eq_getElem?_getD, h2] at h4; exact h4
  · rcases memAll_mem hx with hx | ⟨j, dr, h1, h2⟩
    · exact hsub x hx
    · exact hnb j dr ((hd j).2 (List.getElem?_eq_some_iff.1 h1).1) h1 x h2

theorem mid_any (hH : HndOk P E H) (hN : Named P) (he : edgesOk ops.toList 0 = true) (hnd : noDup ops.toList = true) {full : List DR} {pc : PC} (hp : PcOk E pc) (hkn : full.length ≤ ops.size)
    (hk : sinksOk (ancs ops.toList []) full.length (ops.size - full.length) = true) {m : Mm} (hm : m = σ.mm) (hlim : σ.nxt + full.length * σ.sz ≤ σ.lim)
    (hfull : ∀ (k : Nat) (o : Oper), k < full.length → ops[k]? = some o → ∃ dr, full[k]? = some dr ∧ OpDone P E H ops.toList (ancs ops.toList []) m σ.tm (full.take k) k o dr)
    (hs : (seqOps H P ops.toList (ops.toList.drop full.length) { σ with tm := putAll σ.tm full, own := memAll σ.own full, nxt := σ.nxt + full.length * σ.sz, pc := pc }).sel E = some σ') :
    ∀ (fuel : Nat) {d : Array Bool} {β : Pl} {a : Act} {w : World}, d.size = ops.size → undone d ops.size = fuel → Closed (ancs ops.toList []) d → (∀ j, Done d j → j < full.length) → Mid E β0 β w0 σ ops.toList full d a w →
      (∀ β' a' w', Ext β0 β' σ.nxt σ'.nxt → RepS E β' w0 σ' a' w' → Q .normal a' w') → wpAny P .any ops Q fuel d a w := by
  intro fuel
  induction fuel with
  | zero =>
    intro d β a w hd hu hc hlt hmid hQ
    have hall := undone_zero hu
    have hiff : ∀ j, Done d j ↔ j < full.length := fun j => ⟨hlt j, fun h => hall j (by omega)⟩
    have hkn' : full.length = ops.size := by
      have := undone_eq hiff ops.size
      omega
    exact seq_any hH hN he hk 0 full.length (by omega) (Nat.le_refl _) hd hiff (hmid.rep hp hnd hlim hiff (fun k dr h => by
      have hkl := (List.getElem?_eq_some_iff.1 h).1
      have ho : ops[k]? = some ops[k] := Array.getElem?_eq_getElem (by omega)
      obtain ⟨dr', h1, h2⟩ := hfull k _ hkl ho
      rw [h] at h1; cases h1
      exact ⟨_, ho, h2.dst⟩)) hs (fun β2 a2 w2 he2 hr2 => hQ β2 a2 w2 (Ext.trans hmid.ext he2) hr2)
  | succ fuel ih =>
    intro d β a w hd hu hc hlt hmid hQ
    by_cases hall : ∀ j, j < full.length → Done d j
    · have hiff : ∀ j, Done d j ↔ j < full.length := fun j => ⟨hlt j, hall j⟩
      have := undone_eq hiff ops.size
      exact seq_any hH hN he hk (fuel + 1) full.length (by omega) (Nat.le_refl _) hd hiff (hmid.rep hp hnd hlim hiff (fun k dr h => by
        have hkl := (List.getElem?_eq_some_iff.1 h).1
        have ho : ops[k]? = some ops[k] := Array.getElem?_eq_getElem (by omega)
        obtain ⟨dr', h1, h2⟩ := hfull k _ hkl ho
        rw [h] at h1; cases h1
        exact ⟨_, ho, h2.dst⟩)) hs (fun β2 a2 w2 he2 hr2 => hQ β2 a2 w2 (Ext.trans hmid.ext he2) hr2)
    · simp only [Classical.not_forall] at hall
      obtain ⟨j, hj, hjn⟩ := hall
      refine ⟨fun hnil => absurd hnil (ready_some hd he (j := j) (by omega) hjn), fun i hi => ?_⟩
      obtain ⟨o, ho, hndi, _⟩ := (ready_iff hd).1 hi
      have hin := (Array.getElem?_eq_some_iff.1 ho).1
      have hil : i < full.length := by
        rcases Nat.lt_or_ge i full.length with h | h
        · exact h
        · exact absurd (ready_anc hd he hc hi (sinks_bit hk i h (by omega) j (by omega))) hjn
      refine hmid.step hH hN he hnd hm hlim hfull hd hc hil hi _ Q fun β' a' w' hmid' => ?_
      refine ih (by simpa using hd) ?_ (closed_set (by omega) hc (fun q hq => ready_anc hd he hc hi hq)) (fun q hq => ?_) hmid' hQ
      · have := (undone_set (by omega : i < d.size) hndi ops.size).2 hin
        omega
      · rcases (done_set (by omega)).1 hq with rfl | hq
        · exact hil
        · exact hlt q hq

theorem region_wp (hH : HndOk P E H) (hHp : HndPc E H) (hN : Named P) (hmix : P.follows .mixedOrders = true) {id : Nat} {draw : Bool} (h : RepS E β w0 σ a w)
    (hs : (region H P ops.toList draw σ).sel E = some σ') (hQ : ∀ β' a' w', Ext β β' σ.nxt σ'.nxt → RepS E β' w0 σ' a' w' → Q .normal a' w') : (Code.region id ops draw).wp P Q a w := by
  unfold region at hs
  split at hs
  · refine wp_region ?_
    have := seqOps_wp (Q := Q) hH hN ops.toList 0 (fun k => by simp) h hs hQ
    rwa [Array.length_toList, ← List.range_eq_range'] at this
  · split at hs
    · rename_i he hnd hk hlim
      obtain ⟨x, hx, hs⟩ := Out.sel_bind_some hs
      have hlim' := Nat.le_of_ble_eq_true hlim
      have hsk : ∀ l : List Oper, sinkAt l ≤ l.length := by
        intro l
        induction l with
        | nil => simp [sinkAt]
        | cons o r ih => simp only [sinkAt]; split <;> simp <;> omega
      obtain ⟨hp, full, h1, h2, h3⟩ := drawOps_sel (done := []) hHp _ h.pc hx
      simp only [List.nil_append, List.length_nil, Nat.zero_add] at h1 h3
      have hlen : full.length = sinkAt ops.toList := by
        rw [h2, List.length_take]; have := hsk ops.toList; omega
      rw [h1, ← hlen] at hs
      rw [← hlen] at hlim'
      have hkn : full.length ≤ ops.size := by have := hsk ops.toList; simp at this; omega
      refine wp_region_any hmix ?_
      have hdrew : RepS E β w0 σ a { w with drawn := w.drawn + 1 } :=
        { tm := h.tm, df := h.df, own := h.own.below (Pl.le_refl _) (Below.refl _ _).drew, fresh := h.fresh, le := h.le, below := h.below.drew, ro := h.ro, pc := h.pc }
      refine mid_any hH hN he hnd hp hkn (by rw [hlen]; simpa using hk) rfl hlim' (fun k o hkl ho => ?_) hs ops.size (by simp) (undone_none _ _ (Nat.le_refl _)) (fun j hj => ?_) (fun j hj => ?_) ⟨⟨?_, fun t v hv => .inr ⟨fun j _ hj => ?_, ?_⟩⟩, hdrew.df, ⟨σ.own, hdrew.own, fun _ hx => hx, fun j dr hj => ?_⟩, fun i hi _ => ?_, ?_, hdrew.below, hdrew.ro, (Ext.refl _ _).more (Nat.le_add_right _ _)⟩ hQ
      · exact h3 k o (by rw [List.getElem?_take, if_pos (by omega), Array.getElem?_toList]; exact ho)
      · unfold Done at hj; rw [Array.getElem?_replicate] at hj; split at hj <;> cases hj
      · unfold Done at hj; rw [Array.getElem?_replicate] at hj; split at hj <;> cases hj
      · have := reps_length h.tm; simpa using this
      · unfold Done at hj; rw [Array.getElem?_replicate] at hj; split at hj <;> cases hj
      · have hlt : t < σ.tm.length := by
          have h4 := (Array.getElem?_eq_some_iff.1 hv).1
          have h5 := reps_length h.tm
          rw [Array.length_toList] at h5; omega
        obtain ⟨v', hv', hr⟩ := reps_get h.tm (List.getElem?_eq_getElem hlt)
        rw [Array.getElem?_toList, hv] at hv'
        cases hv'
        rw [List.getD_eq_getElem?_getD, List.getElem?_eq_getElem hlt]; exact hr
      · unfold Done at hj; rw [Array.getElem?_replicate] at hj; split at hj <;> cases hj
      · intro j hj1 hj2
        have : (i + 1) * σ.sz ≤ full.length * σ.sz := Nat.mul_le_mul_right _ hi
        rw [Nat.succ_mul] at this
        exact h.fresh j (by omega) (by omega)
      · intro j hj1 hj2
        exact h.fresh j (by omega) hj2
    all_goals cases hs
end
end Go.Sx
