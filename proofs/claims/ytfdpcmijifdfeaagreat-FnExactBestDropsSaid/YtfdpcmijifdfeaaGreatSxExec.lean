/- The symbolic executor is sound: whole functions. No condition. -/
import Derived.Test.YtfdpcmijifdfeaaGreatSxDraw
import Derived.LoopN
set_option linter.unusedVariables false
set_option linter.unusedSimpArgs false
noncomputable section
namespace Go.Sx
open Go Go.RowKit

section
variable {P : Program} {E : Env} {β : Pl} {w0 w : World} {a : Act}

/-- One of two, by a bool. -/
def sel2 {α : Type} (b : Bool) (x y : α) : α := if b then x else y

theorem iteK_rep {k : SK} {c p q : Tm} {v : Value} (h : SV.rep E β (.sc k (sel2 (c.den E).toB p q)) v) : SV.rep E β (.sc k (iteK k c p q)) v := by
  unfold sel2 at h
  cases k <;> simp only [iteK, SV.rep, SK.rep, mkIteB_den, mkIte_den] at h ⊢ <;> split at h <;> (rename_i hc; simpa [hc] using h)
theorem ogN_den {c p q : Tm} {l : Nat} (hl : l ≤ maxLen) (h : (l : Int) = ((sel2 (c.den E).toB p q).den E).toI) : (l : Int) = ((ogN c p q).den E).toI := by
  have hw : ∀ x : Int, 0 ≤ x → x ≤ maxLen → IntKind.i64.wrap x = x := fun x h0 h1 => wrap_in .i64 (by rw [← kmin_eq]; show (-9223372036854775808 : Int) ≤ _; omega) (by rw [← kmax_eq]; show _ ≤ (9223372036854775807 : Int); unfold maxLen at h1; omega)
  unfold ogN
  split
  · rename_i he
    have e := Tm.beq_eq he
    subst e
    show (l : Int) = IntKind.i64.wrap ((q.den E).toI + (if (c.den E).toB = true then Sc.i 1 else Sc.i 0).toI)
    unfold sel2 at h
    cases hc : (c.den E).toB with
    | true =>
      rw [hc] at h
      simp only [if_true] at h ⊢
      rw [h]
      unfold succT
      rw [mkOp_den]
      rfl
    | false =>
      rw [hc] at h
      simp only [Bool.false_eq_true, if_false, Sc.toI_i, Int.add_zero] at h ⊢
      rw [← h, hw _ (by omega) (by omega)]
  · split
    · rename_i he
      have e := Tm.beq_eq he
      subst e
      show (l : Int) = IntKind.i64.wrap ((p.den E).toI + (if (c.den E).toB = true then Sc.i 0 else Sc.i 1).toI)
      unfold sel2 at h
      cases hc : (c.den E).toB with
      | true =>
        rw [hc] at h
        simp only [if_true, Sc.toI_i, Int.add_zero] at h ⊢
        rw [← h, hw _ (by omega) (by omega)]
      | false =>
        rw [hc] at h
        simp only [Bool.false_eq_true, if_false] at h ⊢
        rw [h]
        unfold succT
        rw [mkOp_den]
        rfl
    · rw [mkIte_den]
      unfold sel2 at h
      split at h
      · rename_i hc; rw [if_pos hc]; exact h
      · rename_i hc; rw [if_neg hc]; exact h
theorem ogL_den {c p q : Tm} : ((ogL c p q).den E).list = ((sel2 (c.den E).toB p q).den E).list := by
  have two : ∀ (c p q : Tm), ((mkIte c p q).den E).list = ((sel2 (c.den E).toB p q).den E).list := by
    intro c p q
    rw [mkIte_den]
    unfold sel2
    split <;> rfl
  have one : ∀ (c b' u : Tm), ((Tm.op .snoc b' (.ite c u .nil)).den E).list = ((sel2 (c.den E).toB (.op .snoc b' u) b').den E).list := by
    intro c b' u
    show (Sc.ofList ((b'.den E).list ++ (if (c.den E).toB = true then u.den E else Sc.nil).list)).list = _
    rw [ofList_list]
    unfold sel2
    cases hc : (c.den E).toB with
    | true =>
      simp only [if_true]
      show _ = (Sc.ofList ((b'.den E).list ++ (u.den E).list)).list
      rw [ofList_list]
    | false =>
      simp only [Bool.false_eq_true, if_false, Sc.list, List.append_nil]
  have one' : ∀ (c b' u : Tm), ((Tm.op .snoc b' (.ite c .nil u)).den E).list = ((sel2 (c.den E).toB b' (.op .snoc b' u)).den E).list := by
    intro c b' u
    show (Sc.ofList ((b'.den E).list ++ (if (c.den E).toB = true then Sc.nil else u.den E).list)).list = _
    rw [ofList_list]
    unfold sel2
    cases hc : (c.den E).toB with
    | true =>
      simp only [if_true, Sc.list, List.append_nil]
    | false =>
      simp only [Bool.false_eq_true, if_false]
      show _ = (Sc.ofList ((b'.den E).list ++ (u.den E).list)).list
      rw [ofList_list]
  unfold ogL
  split
  · split
    · rename_i he
      rw [Tm.beq_eq he]
      exact one _ _ _
    · split
      · split
        · rename_i he
          rw [Tm.beq_eq he]
          exact one' _ _ _
        · exact two _ _ _
      · exact two _ _ _
  · split
    · split
      · rename_i he
        rw [Tm.beq_eq he]
        exact one' _ _ _
      · exact two _ _ _
    · exact two _ _ _
theorem og_rep {c : Tm} {j : Nat} {ks : List SK} {p q t u : Tm} {v : Value} (h : SV.rep E β (sel2 (c.den E).toB (.og j ks p t) (.og j ks q u)) v) : SV.rep E β (.og j ks (ogN c p q) (ogL c t u)) v := by
  have h' : SV.rep E β (.og j ks (sel2 (c.den E).toB p q) (sel2 (c.den E).toB t u)) v := by
    cases hc : (c.den E).toB with
    | true => simpa only [sel2, hc, if_true] using h
    | false => simpa only [sel2, hc, Bool.false_eq_true, if_false] using h
  simp only [SV.rep] at h' ⊢
  obtain ⟨b, l, h1, h3, h4, h5, h6, h7, h8⟩ := h'
  exact ⟨b, l, h1, h3, h4, h5, ogN_den h5 h6, h7.trans ogL_den.symm, h8⟩
theorem mergeC_rep {c : Tm} {x y : SV} {v : Value} (h : SV.rep E β (sel2 (c.den E).toB x y) v) : SV.rep E β (mergeC c x y) v := by
  unfold mergeC
  split
  · rename_i he
    rw [← SV.beq_eq x y he] at h
    unfold sel2 at h
    split at h <;> exact h
  · split
    · split
      · rename_i hk
        have hk' := beqK_eq hk
        subst hk'
        refine iteK_rep ?_
        unfold sel2 at h ⊢
        split at h
        · rename_i hc; simpa [hc] using h
        · rename_i hc; simpa [hc] using h
      · simp [SV.rep]
    · split
      · rename_i j ks a t j' ks' b u hj hks
        have e1 := Nat.eq_of_beq_eq_true hj
        have e2 := eqKs_eq hks
        subst e1; subst e2
        exact og_rep h
      · simp [SV.rep]
    · simp [SV.rep]
theorem mergeL_rep {c : Tm} : ∀ {x y r : List SV} {vs : List Value}, mergeL c x y = some r → SV.reps E β (sel2 (c.den E).toB x y) vs → SV.reps E β r vs ∧ x.length = y.length ∧ r.length = x.length
  | [], [], r, vs, h, hr => by
    cases h
    refine ⟨?_, rfl, rfl⟩
    unfold sel2 at hr
    split at hr <;> exact hr
  | p :: x, q :: y, r, vs, h, hr => by
    simp only [mergeL] at h
    split at h
    · rename_i s hs
      cases h
      have h1 : ∃ v rest, vs = v :: rest ∧ SV.rep E β (sel2 (c.den E).toB p q) v ∧ SV.reps E β (sel2 (c.den E).toB x y) rest := by
        unfold sel2 at hr ⊢
        split at hr
        · rename_i hc; simp only [SV.reps] at hr; obtain ⟨v, rest, h1, h2, h3⟩ := hr; exact ⟨v, rest, h1, by simpa [hc] using h2, by simpa [hc] using h3⟩
        · rename_i hc; simp only [SV.reps] at hr; obtain ⟨v, rest, h1, h2, h3⟩ := hr; exact ⟨v, rest, h1, by simpa [hc] using h2, by simpa [hc] using h3⟩
      obtain ⟨v, rest, rfl, h2, h3⟩ := h1
      obtain ⟨h4, h5, h6⟩ := mergeL_rep hs h3
      exact ⟨by rw [reps_cons]; exact ⟨mergeC_rep h2, h4⟩, by simp [h5], by simp [h6]⟩
    · cases h
  | [], _ :: _, r, vs, h, _ => by cases h
  | _ :: _, [], r, vs, h, _ => by cases h
theorem mergeV_rep {c : Tm} {x y : SV} {v : Value} (h : SV.rep E β (sel2 (c.den E).toB x y) v) : SV.rep E β (mergeV c x y) v := by
  unfold mergeV
  split
  · rename_i p q
    split
    · rename_i r hr
      have : ∃ vs : Array Value, v = .agg vs ∧ SV.reps E β (sel2 (c.den E).toB p q) vs.toList := by
        unfold sel2 at h ⊢
        split at h
        · rename_i hc; simpa [SV.rep, hc] using h
        · rename_i hc; simpa [SV.rep, hc] using h
      obtain ⟨vs, rfl, hvs⟩ := this
      simp only [SV.rep]
      exact ⟨vs, rfl, (mergeL_rep hr hvs).1⟩
    · simp [SV.rep]
  · rename_i p q
    split
    · rename_i r hr
      have : ∃ vs : Array Value, v = .tuple vs ∧ SV.reps E β (sel2 (c.den E).toB p q) vs.toList := by
        unfold sel2 at h ⊢
        split at h
        · rename_i hc; simpa [SV.rep, hc] using h
        · rename_i hc; simpa [SV.rep, hc] using h
      obtain ⟨vs, rfl, hvs⟩ := this
      simp only [SV.rep]
      exact ⟨vs, rfl, (mergeL_rep hr hvs).1⟩
    · simp [SV.rep]
  · exact mergeC_rep h
theorem mergeT_rep {c : Tm} : ∀ {x y r : List SV} {vs : List Value}, mergeT c x y = some r → SV.reps E β (sel2 (c.den E).toB x y) vs → SV.reps E β r vs
  | [], [], r, vs, h, hr => by
    cases h
    unfold sel2 at hr
    split at hr <;> exact hr
  | p :: x, q :: y, r, vs, h, hr => by
    simp only [mergeT] at h
    split at h
    · rename_i s hs
      cases h
      have h1 : ∃ v rest, vs = v :: rest ∧ SV.rep E β (sel2 (c.den E).toB p q) v ∧ SV.reps E β (sel2 (c.den E).toB x y) rest := by
        unfold sel2 at hr ⊢
        split at hr
        · rename_i hc; simp only [SV.reps] at hr; obtain ⟨v, rest, h1, h2, h3⟩ := hr; exact ⟨v, rest, h1, by simpa [hc] using h2, by simpa [hc] using h3⟩
        · rename_i hc; simp only [SV.reps] at hr; obtain ⟨v, rest, h1, h2, h3⟩ := hr; exact ⟨v, rest, h1, by simpa [hc] using h2, by simpa [hc] using h3⟩
      obtain ⟨v, rest, rfl, h2, h3⟩ := h1
      rw [reps_cons]
      exact ⟨mergeV_rep h2, mergeT_rep hs h3⟩
    · cases h
  | [], _ :: _, r, vs, h, _ => by cases h
  | _ :: _, [], r, vs, h, _ => by cases h

theorem beqRow_eq {a b : Option (Nat × Nat × Nat)} (h : beqRow a b = true) : a = b := by
  unfold beqRow at h
  split at h
  · rfl
  · split at h
    · rename_i h1 h2; rw [Nat.eq_of_beq_eq_true h1, Nat.eq_of_beq_eq_true h2, Nat.eq_of_beq_eq_true h]
    · cases h
  · cases h

theorem mergeM_mem {c : Tm} {n k : Nat} {b : Mem} : ∀ {x : Mem} {j : Nat} {sb : SB}, (j, sb) ∈ mergeM c n k b x → ∃ s1 s2, (j, s1) ∈ x ∧ (j, s2) ∈ b ∧ s1.row = s2.row ∧ sb.row = s1.row ∧ mergeL c s1.cs s2.cs = some sb.cs
  | [], j, sb, h => by cases h
  | (i, y) :: r, j, sb, h => by
    have rest : (j, sb) ∈ mergeM c n k b r → ∃ s1 s2, (j, s1) ∈ (i, y) :: r ∧ (j, s2) ∈ b ∧ s1.row = s2.row ∧ sb.row = s1.row ∧ mergeL c s1.cs s2.cs = some sb.cs := by
      intro h
      obtain ⟨s1, s2, h1, h2⟩ := mergeM_mem h
      exact ⟨s1, s2, List.mem_cons_of_mem _ h1, h2⟩
    simp only [mergeM] at h
    split at h
    · rename_i sb' _ hf
      split at h
      · rename_i cs hrow hcs
        rcases List.mem_cons.1 h with h | h
        · cases h
          exact ⟨y, sb', List.mem_cons_self .., find_mem hf, beqRow_eq hrow, rfl, hcs⟩
        · exact rest h
      · exact rest h
    · exact rest h

theorem mergeM_owns {c : Tm} {n k B : Nat} {x y : Mem} (h : Owns E β B (sel2 (c.den E).toB x y) w) : Owns E β B (mergeM c n k y x) w := by
  have key : ∀ {j sb}, (j, sb) ∈ mergeM c n k y x → ∃ s, (j, s) ∈ sel2 (c.den E).toB x y ∧ sb.row = s.row ∧ sb.cs.length = s.cs.length ∧ ∀ (i : Nat) (t : SV), sb.cs[i]? = some t → ∃ u, s.cs[i]? = some u ∧ ∀ v, SV.rep E β u v → SV.rep E β t v := by
    intro j sb hj
    obtain ⟨s1, s2, h1, h2, h3, h4, h5⟩ := mergeM_mem hj
    have len : ∀ {p q r : List SV}, mergeL c p q = some r → r.length = p.length ∧ p.length = q.length ∧ ∀ (i : Nat) (t : SV), r[i]? = some t → ∃ u1 u2, p[i]? = some u1 ∧ q[i]? = some u2 ∧ t = mergeC c u1 u2 := by
      intro p
      induction p with
      | nil => intro q r h; cases q with
        | nil => cases h; exact ⟨rfl, rfl, fun i t h => by simp at h⟩
        | cons _ _ => cases h
      | cons p0 p ih => intro q r h; cases q with
        | nil => cases h
        | cons q0 q =>
          simp only [mergeL] at h
          split at h
          · rename_i s hs
            cases h
            obtain ⟨e1, e2, e3⟩ := ih hs
            refine ⟨by simp [e1], by simp [e2], fun i t hi => ?_⟩
            cases i with
            | zero => simp at hi; exact ⟨p0, q0, by simp, by simp, hi.symm⟩
            | succ i => simpa using e3 i t (by simpa using hi)
          · cases h
    obtain ⟨e1, e2, e3⟩ := len h5
    cases hc : (c.den E).toB with
    | true =>
      refine ⟨s1, by simpa [sel2] using h1, h4, e1, fun i t hi => ?_⟩
      obtain ⟨u1, u2, f1, f2, rfl⟩ := e3 i t hi
      exact ⟨u1, f1, fun v hv => mergeC_rep (by simpa [sel2, hc] using hv)⟩
    | false =>
      refine ⟨s2, by simpa [sel2] using h2, h4.trans h3, by omega, fun i t hi => ?_⟩
      obtain ⟨u1, u2, f1, f2, rfl⟩ := e3 i t hi
      exact ⟨u2, f2, fun v hv => mergeC_rep (by simpa [sel2, hc] using hv)⟩
  refine ⟨fun j sb hj => ?_, fun j sb j' sb' b b' hj hj' hne hb hb' => ?_⟩
  · obtain ⟨s, hs, hrow, hlen, hcs⟩ := key hj
    obtain ⟨b, hb, hr, hB, h0, arr, e, hh, hrw⟩ := h.ent j s hs
    refine ⟨b, hb, ⟨hr.1, fun i t hi => ?_, hr.3.imp id fun ⟨g1, g2⟩ => ⟨List.eq_nil_of_length_eq_zero (by rw [hlen, g1]; rfl), g2⟩, fun e s h => hr.4 e s (hrow.symm.trans h)⟩, hB, h0, arr, e, hh, ?_⟩
    · obtain ⟨u, hu, hut⟩ := hcs i t hi
      obtain ⟨v, hv, hv1, hv2⟩ := hr.2 i u hu
      exact ⟨v, hv, hv1, hut v hv2⟩
    · rw [hrow, hlen]; exact hrw
  · obtain ⟨s, hs, _⟩ := key hj
    obtain ⟨s', hs', _⟩ := key hj'
    exact h.apart j s j' s' b b' hs hs' hne hb hb'

theorem mergeK_rep {c : Tm} {k : Nat} {σ x y m : St} (h : mergeK k c σ x y = some m) (hr : RepM E β w0 (sel2 (c.den E).toB x y) a w) : RepM E β w0 m a w ∧ (sel2 (c.den E).toB x y).nxt ≤ m.nxt := by
  unfold mergeK at h
  split at h
  · rename_i tm ht hl1 hl2 hle
    cases h
    have e1 := Nat.eq_of_beq_eq_true hl1
    have e2 := Nat.eq_of_beq_eq_true hl2
    have e3 := Nat.le_of_ble_eq_true hle
    have hlim : (sel2 (c.den E).toB x y).lim = σ.lim := by unfold sel2; split <;> assumption
    have hnx : (sel2 (c.den E).toB x y).nxt ≤ max x.nxt y.nxt := by
      unfold sel2; split
      · exact Nat.le_max_left _ _
      · exact Nat.le_max_right _ _
    have htm : (sel2 (c.den E).toB x y).tm = sel2 (c.den E).toB x.tm y.tm := by unfold sel2; split <;> rfl
    have hown : (sel2 (c.den E).toB x y).own = sel2 (c.den E).toB x.own y.own := by unfold sel2; split <;> rfl
    refine ⟨{ tm := mergeT_rep ht (by rw [← htm]; exact hr.tm), df := hr.df, own := mergeM_owns (by rw [← hown]; exact hr.own), fresh := fun j h1 h2 => ?_, le := e3, below := hr.below }, hnx⟩
    exact hr.fresh j (Nat.le_trans hnx h1) (by rw [hlim]; exact h2)
  · cases h

theorem pairL_mem : ∀ {x y : List SV} {a b : SV}, pairL x y = some (a, b) → a ∈ x ∧ b ∈ y
  | [], _, _, _, h => by cases h
  | _ :: _, [], _, _, h => by cases h
  | p :: x, q :: y, a, b, h => by
    simp only [pairL] at h
    have rest : pairL x y = some (a, b) → a ∈ p :: x ∧ b ∈ q :: y := fun h => ⟨List.mem_cons_of_mem _ (pairL_mem h).1, List.mem_cons_of_mem _ (pairL_mem h).2⟩
    split at h
    · split at h
      · exact rest h
      · cases h; exact ⟨List.mem_cons_self .., List.mem_cons_self ..⟩
    · exact rest h
theorem reps_memV {ss : List SV} {vs : List Value} (h : SV.reps E β ss vs) {s : SV} (hs : s ∈ ss) : ∃ v, SV.rep E β s v := by
  obtain ⟨i, hi⟩ := List.getElem?_of_mem hs
  obtain ⟨v, _, hv⟩ := reps_get h hi
  exact ⟨v, hv⟩
theorem mergeSt_rep {c : Tm} {σ x y m : St} (h : mergeSt c σ x y = some m) (hr : RepM E β w0 (sel2 (c.den E).toB x y) a w) : ∃ β', Ext β β' (sel2 (c.den E).toB x y).nxt m.nxt ∧ RepM E β' w0 m a w := by
  replace h := mergeSt_eq h
  have plain : ∀ {k : Nat}, mergeK k c σ x y = some m → ∃ β', Ext β β' (sel2 (c.den E).toB x y).nxt m.nxt ∧ RepM E β' w0 m a w := fun h => by
    obtain ⟨h1, h2⟩ := mergeK_rep h hr
    exact ⟨β, (Ext.refl β _).more h2, h1⟩
  unfold mergeSt0 at h
  split at h
  · exact plain h
  · rename_i s1 s2 hpair
    split at h
    · exact plain h
    · rename_i ks _
      split at h
      · rename_i x1 y1 ho1 ho2
        split at h
        · rename_i hlt hl1 hl2
          have hlt' : max x.nxt y.nxt < σ.lim := by simpa [Nat.blt_eq] using hlt
          have e1 := Nat.eq_of_beq_eq_true hl1
          have e2 := Nat.eq_of_beq_eq_true hl2
          obtain ⟨m1, m2⟩ := pairL_mem hpair
          generalize hm : max x.nxt y.nxt = mm at *
          have both : ∃ β', Ext β β' (sel2 (c.den E).toB x y).nxt (mm + 1) ∧ RepM E β' w0 (sel2 (c.den E).toB (reopen mm ks s1 x1 x) (reopen mm ks s2 y1 y)) a w := by
            cases hc : (c.den E).toB with
            | true =>
              simp only [sel2, hc, if_true] at hr ⊢
              exact reopen_rep hr (reps_memV hr.tm m1) ho1 (by omega) (by omega)
            | false =>
              simp only [sel2, hc, Bool.false_eq_true, if_false] at hr ⊢
              exact reopen_rep hr (reps_memV hr.tm m2) ho2 (by omega) (by omega)
          obtain ⟨β', he, hr'⟩ := both
          obtain ⟨k1, k2⟩ := mergeK_rep h hr'
          refine ⟨β', ?_, k1⟩
          have e3 : (sel2 (c.den E).toB (reopen mm ks s1 x1 x) (reopen mm ks s2 y1 y)).nxt = mm + 1 := by unfold sel2; split <;> rfl
          rw [e3] at k2
          exact he.more k2
        · cases h
      · exact plain h

theorem mergeN_rep {σ : St} : ∀ {o : Out (Ex × St)} {m : St}, mergeN σ o = some m → ∃ s, o.sel E = some (.normal, s) ∧ ∀ {β a w}, RepM E β w0 s a w → ∃ β', Ext β β' s.nxt m.nxt ∧ RepM E β' w0 m a w
  | .ret (.normal, x), m, h => by cases h; exact ⟨x, rfl, fun {β _ _} hr => ⟨β, Ext.refl β _, hr⟩⟩
  | .ret (.exit _, x), m, h => by cases h
  | .ret (.ret, x), m, h => by cases h
  | .bad _, m, h => by cases h
  | .br c x y, m, h => by
    simp only [mergeN] at h
    split at h
    · cases h
    · rename_i p hp
      split at h
      · cases h
      · rename_i q hq
        obtain ⟨s1, h1, h2⟩ := mergeN_rep hp
        obtain ⟨s2, h3, h4⟩ := mergeN_rep hq
        cases hc : (c.den E).toB with
        | true =>
          refine ⟨s1, by simp [Out.sel, hc, h1], ?_⟩
          intro β a w hr
          obtain ⟨β2, g2, g1⟩ := h2 hr
          have g5 : RepM E β2 w0 (sel2 (c.den E).toB p q) a w := by simp only [sel2, hc, if_true]; exact g1
          obtain ⟨β3, g4, g3⟩ := mergeSt_rep h g5
          simp only [sel2, hc, if_true] at g4
          exact ⟨β3, g2.trans g4, g3⟩
        | false =>
          refine ⟨s2, by simp [Out.sel, hc, h3], ?_⟩
          intro β a w hr
          obtain ⟨β2, g2, g1⟩ := h4 hr
          have g5 : RepM E β2 w0 (sel2 (c.den E).toB p q) a w := by simp only [sel2, hc, Bool.false_eq_true, if_false]; exact g1
          obtain ⟨β3, g4, g3⟩ := mergeSt_rep h g5
          simp only [sel2, hc, Bool.false_eq_true, if_false] at g4
          exact ⟨β3, g2.trans g4, g3⟩
theorem mergeN_keeps {σ : St} {c : Tm} {x y : Out (Ex × St)} {m : St} (h : mergeN σ (.br c x y) = some m) : m.pc = σ.pc ∧ m.ro = σ.ro := by
  simp only [mergeN] at h
  split at h
  · cases h
  · split at h
    · cases h
    · exact mergeSt_keeps h

theorem mergeS_ok : ∀ {o : Out Res} {k : SK} {t : Tm}, mergeS o = some (k, t) → ∃ r t', o.sel E = some r ∧ r.v = .sc k t' ∧ ∀ {β v}, SV.rep E β (.sc k t') v → SV.rep E β (.sc k t) v
  | .ret r, k, t, h => by
    simp only [mergeS] at h
    split at h
    · rename_i hv; cases h; exact ⟨r, t, rfl, hv, fun h => h⟩
    · cases h
  | .bad _, k, t, h => by cases h
  | .br c x y, k, t, h => by
    simp only [mergeS] at h
    split at h
    · cases h
    · rename_i k1 p hp
      split at h
      · cases h
      · rename_i k2 q hq
        split at h
        · rename_i hk
          have hk' := beqK_eq (a := k1) (b := k2) hk
          subst hk'
          cases h
          obtain ⟨r1, t1, h1, h2, h3⟩ := mergeS_ok hp
          obtain ⟨r2, t2, h4, h5, h6⟩ := mergeS_ok hq
          cases hc : (c.den E).toB with
          | true => exact ⟨r1, t1, by simp [Out.sel, hc, h1], h2, fun hr => iteK_rep (by simp only [sel2, hc, if_true]; exact h3 hr)⟩
          | false => exact ⟨r2, t2, by simp [Out.sel, hc, h4], h5, fun hr => iteK_rep (by simp only [sel2, hc, Bool.false_eq_true, if_false]; exact h6 hr)⟩
        · cases h

theorem lookN_ok : ∀ {pc : PC} {t : Tm} {n : Nat}, PcOk E pc → lookN pc t = some n → E.v n = t.den E
  | [], _, _, _, h => by cases h
  | (f, v) :: r, t, n, hp, h => by
    have hr : PcOk E r := fun p hm => hp p (List.mem_cons_of_mem _ hm)
    simp only [lookN] at h
    split at h
    · rename_i o m u
      split at h
      · rename_i ho
        split at h
        · rename_i hu
          cases h
          have ho' : o = .eqv := Opc.n_inj (b := .eqv) (Nat.eq_of_beq_eq_true ho)
          have := hp _ (List.mem_cons_self ..)
          subst ho'
          simp only [Tm.den, Opc.den, Sc.toB_b, decide_eq_true_eq] at this
          rw [← Tm.beq_eq hu]
          exact of_decide_eq_true this
        · exact lookN_ok hr h
      · exact lookN_ok hr h
    · exact lookN_ok hr h
theorem nameT_den {pc : PC} (hp : PcOk E pc) (t : Tm) : (nameT pc t).den E = t.den E := by
  unfold nameT
  split
  · split
    · rename_i n hn; exact lookN_ok hp hn
    · rfl
  · rfl
theorem nameC_rep {pc : PC} (hp : PcOk E pc) {s : SV} {v : Value} (h : SV.rep E β s v) : SV.rep E β (nameC pc s) v := by
  cases s <;> first | exact h | (simp only [nameC, SV.rep, nameT_den hp] at h ⊢; exact h)
theorem reps_mapF {f : SV → SV} (hf : ∀ s v, SV.rep E β s v → SV.rep E β (f s) v) : ∀ {l : List SV} {vs : List Value}, SV.reps E β l vs → SV.reps E β (l.map f) vs
  | [], vs, h => by simpa using h
  | s :: r, vs, h => by
    simp only [SV.reps] at h
    obtain ⟨v, rest, rfl, h1, h2⟩ := h
    simp only [List.map_cons, reps_cons]
    exact ⟨hf s v h1, reps_mapF hf h2⟩
theorem nameV_rep {pc : PC} (hp : PcOk E pc) {s : SV} {v : Value} (h : SV.rep E β s v) : SV.rep E β (nameV pc s) v := by
  cases s with
  | sc k t => simp only [nameV, SV.rep, nameT_den hp] at h ⊢; exact h
  | agg cs =>
    simp only [nameV, SV.rep] at h ⊢
    obtain ⟨vs, rfl, hr⟩ := h
    exact ⟨vs, rfl, reps_mapF (fun _ _ => nameC_rep hp) hr⟩
  | tup cs =>
    simp only [nameV, SV.rep] at h ⊢
    obtain ⟨vs, rfl, hr⟩ := h
    exact ⟨vs, rfl, reps_mapF (fun _ _ => nameC_rep hp) hr⟩
  | _ => exact h
theorem nameB_mem {pc : PC} : ∀ {x : Mem} {j : Nat} {sb : SB}, (j, sb) ∈ nameB pc x → ∃ s, (j, s) ∈ x ∧ sb = ⟨s.cs.map (nameC pc), s.row⟩
  | [], _, _, h => by cases h
  | (i, y) :: r, j, sb, h => by
    simp only [nameB] at h
    rcases List.mem_cons.1 h with h | h
    · cases h; exact ⟨y, List.mem_cons_self .., rfl⟩
    · obtain ⟨s, h1, h2⟩ := nameB_mem h; exact ⟨s, List.mem_cons_of_mem _ h1, h2⟩
theorem nameB_owns {pc : PC} {B : Nat} {x : Mem} (hp : PcOk E pc) (h : Owns E β B x w) : Owns E β B (nameB pc x) w := by
  refine ⟨fun j sb hj => ?_, fun j sb j' sb' b b' hj hj' hne hb hb' => ?_⟩
  · obtain ⟨s, hs, rfl⟩ := nameB_mem hj
    obtain ⟨b, hb, hr, hB, h0, arr, e, hh, hrw⟩ := h.ent j s hs
    refine ⟨b, hb, ⟨hr.1, fun i t hi => ?_, hr.3.imp id fun ⟨g1, g2⟩ => ⟨by rw [g1]; rfl, g2⟩, hr.4⟩, hB, h0, arr, e, hh, ?_⟩
    · simp only [List.getElem?_map, Option.map_eq_some_iff] at hi
      obtain ⟨u, hu, rfl⟩ := hi
      obtain ⟨v, hv, hv1, hv2⟩ := hr.2 i u hu
      exact ⟨v, hv, hv1, nameC_rep hp hv2⟩
    · simp only [List.length_map]; exact hrw
  · obtain ⟨s, hs, _⟩ := nameB_mem hj
    obtain ⟨s', hs', _⟩ := nameB_mem hj'
    exact h.apart j s j' s' b b' hs hs' hne hb hb'
theorem nameSt_rep {σ : St} (hp : PcOk E σ.pc) (h : RepM E β w0 σ a w) : RepM E β w0 (nameSt σ) a w :=
  { tm := reps_mapF (fun _ _ => nameV_rep hp) h.tm, df := h.df, own := nameB_owns hp h.own, fresh := h.fresh, le := h.le, below := h.below }

/-- What a meeting of ways keeps. -/
theorem regroup_ok {g : Bool} {σ : St} (hp : PcOk E σ.pc) {o : Out (Ex × St)} {res : Ex × St} (h : (regroup g σ o).sel E = some res) :
    ∃ s, o.sel E = some s ∧ (s = res ∨ (s.1 = .normal ∧ res.1 = .normal ∧ res.2.pc = σ.pc ∧ res.2.ro = σ.ro ∧ ∀ {β a w}, RepM E β w0 s.2 a w → ∃ β', Ext β β' s.2.nxt res.2.nxt ∧ RepM E β' w0 res.2 a w)) := by
  unfold regroup at h
  split at h
  · exact ⟨res, h, .inl rfl⟩
  · split at h
    · rename_i c x y
      split at h
      · rename_i σ' hm
        split at h
        · exact ⟨res, h, .inl rfl⟩
        · simp only [Out.sel, Option.some.injEq] at h
          subst h
          obtain ⟨s, g1, g2⟩ := mergeN_rep (E := E) (w0 := w0) hm
          obtain ⟨g3, g4⟩ := mergeN_keeps hm
          exact ⟨_, g1, .inr ⟨rfl, rfl, g3, g4, fun hr => by
            obtain ⟨β', k1, k2⟩ := g2 hr
            exact ⟨β', k1, nameSt_rep (by rw [g3]; exact hp) k2⟩⟩⟩
      · exact ⟨res, h, .inl rfl⟩
    · exact ⟨res, h, .inl rfl⟩

theorem isF_eq {t : Tm} (h : isF t = true) : t = .bl false := by
  unfold isF at h
  split at h
  · rfl
  · cases h
theorem settleT_ok {σ : St} : ∀ {o : Out (Ex × St)} {q : Stl}, settleT σ o = some q →
    ((q.c.den E).toB = true → o.sel E = q.r.sel E) ∧ ((q.c.den E).toB = false → ∃ s m, o.sel E = some (.normal, s) ∧ q.n = some m ∧ ∀ {β a w}, RepM E β w0 s a w → ∃ β', Ext β β' s.nxt m.nxt ∧ RepM E β' w0 m a w)
  | .ret (.normal, a), q, h => by
    cases h
    exact ⟨fun h => by simp [Tm.den] at h, fun _ => ⟨a, a, rfl, rfl, fun {β _ _} hr => ⟨β, Ext.refl β _, hr⟩⟩⟩
  | .ret (.exit i, a), q, h => by cases h; exact ⟨fun _ => rfl, fun h => by simp [Tm.den] at h⟩
  | .ret (.ret, a), q, h => by cases h; exact ⟨fun _ => rfl, fun h => by simp [Tm.den] at h⟩
  | .bad _, q, h => by cases h
  | .br t x y, q, h => by
    simp only [settleT] at h
    split at h
    · cases h
    · rename_i p hp
      split at h
      · cases h
      · rename_i p' hp'
        obtain ⟨a1, a2⟩ := settleT_ok hp
        obtain ⟨b1, b2⟩ := settleT_ok hp'
        have hr : ((mkIteB t p.c p'.c).den E).toB = true → (Out.br t x y).sel E = (brO t p p').sel E := by
          intro hc
          rw [mkIteB_den] at hc
          unfold brO
          cases ht : (t.den E).toB with
          | true =>
            rw [ht] at hc
            simp only [if_true] at hc
            simp only [Out.sel, ht, if_true]
            rw [a1 hc]
            split
            · rename_i hf; rw [isF_eq hf] at hc; simp [Tm.den] at hc
            · split
              · rfl
              · simp only [Out.sel, ht, if_true]
          | false =>
            rw [ht] at hc
            simp only [Bool.false_eq_true, if_false] at hc
            simp only [Out.sel, ht, Bool.false_eq_true, if_false]
            rw [b1 hc]
            split
            · rfl
            · split
              · rename_i hf; rw [isF_eq hf] at hc; simp [Tm.den] at hc
              · simp only [Out.sel, ht, Bool.false_eq_true, if_false]
        have hn : ((mkIteB t p.c p'.c).den E).toB = false → ((t.den E).toB = true ∧ (p.c.den E).toB = false) ∨ ((t.den E).toB = false ∧ (p'.c.den E).toB = false) := by
          intro hc
          rw [mkIteB_den] at hc
          cases ht : (t.den E).toB with
          | true => rw [ht] at hc; exact .inl ⟨rfl, by simpa using hc⟩
          | false => rw [ht] at hc; exact .inr ⟨rfl, by simpa using hc⟩
        split at h
        · rename_i a b ha hb
          split at h
          · cases h
          · rename_i m hm
            cases h
            refine ⟨hr, fun hc => ?_⟩
            rcases hn hc with ⟨ht, hc⟩ | ⟨ht, hc⟩
            · obtain ⟨s, m1, e1, e2, e3⟩ := a2 hc
              rw [ha] at e2; cases e2
              refine ⟨s, m, by simp [Out.sel, ht, e1], rfl, fun {β a' w} hr => ?_⟩
              obtain ⟨β2, g2, g1⟩ := e3 hr
              have g5 : RepM E β2 w0 (sel2 (t.den E).toB a b) a' w := by simp only [sel2, ht, if_true]; exact g1
              obtain ⟨β3, g4, g3⟩ := mergeSt_rep hm g5
              simp only [sel2, ht, if_true] at g4
              exact ⟨β3, g2.trans g4, g3⟩
            · obtain ⟨s, m1, e1, e2, e3⟩ := b2 hc
              rw [hb] at e2; cases e2
              refine ⟨s, m, by simp [Out.sel, ht, e1], rfl, fun {β a' w} hr => ?_⟩
              obtain ⟨β2, g2, g1⟩ := e3 hr
              have g5 : RepM E β2 w0 (sel2 (t.den E).toB a b) a' w := by simp only [sel2, ht, Bool.false_eq_true, if_false]; exact g1
              obtain ⟨β3, g4, g3⟩ := mergeSt_rep hm g5
              simp only [sel2, ht, Bool.false_eq_true, if_false] at g4
              exact ⟨β3, g2.trans g4, g3⟩
        · rename_i a ha hb
          cases h
          refine ⟨hr, fun hc => ?_⟩
          rcases hn hc with ⟨ht, hc⟩ | ⟨ht, hc⟩
          · obtain ⟨s, m1, e1, e2, e3⟩ := a2 hc
            rw [ha] at e2; cases e2
            exact ⟨s, a, by simp [Out.sel, ht, e1], rfl, e3⟩
          · obtain ⟨s, m1, e1, e2, e3⟩ := b2 hc
            rw [hb] at e2; cases e2
        · rename_i b ha hb
          cases h
          refine ⟨hr, fun hc => ?_⟩
          rcases hn hc with ⟨ht, hc⟩ | ⟨ht, hc⟩
          · obtain ⟨s, m1, e1, e2, e3⟩ := a2 hc
            rw [ha] at e2; cases e2
          · obtain ⟨s, m1, e1, e2, e3⟩ := b2 hc
            rw [hb] at e2; cases e2
            exact ⟨s, b, by simp [Out.sel, ht, e1], rfl, e3⟩
        · rename_i ha hb
          cases h
          refine ⟨fun _ => ?_, fun hc => by simp [Tm.den] at hc⟩
          have hpc : (p.c.den E).toB = true := by
            cases hc : (p.c.den E).toB with
            | true => rfl
            | false => obtain ⟨s, m1, _, e2, _⟩ := a2 hc; rw [ha] at e2; cases e2
          have hpc' : (p'.c.den E).toB = true := by
            cases hc : (p'.c.den E).toB with
            | true => rfl
            | false => obtain ⟨s, m1, _, e2, _⟩ := b2 hc; rw [hb] at e2; cases e2
          simp only [Out.sel, a1 hpc, b1 hpc']
theorem settle_ok {σ : St} (hp : PcOk E σ.pc) {o : Out (Ex × St)} {res : Ex × St} (h : (settle σ o).sel E = some res) :
    ∃ s, o.sel E = some s ∧ (s = res ∨ (s.1 = .normal ∧ res.1 = .normal ∧ PcOk E res.2.pc ∧ res.2.ro = σ.ro ∧ ∀ {β a w}, RepM E β w0 s.2 a w → ∃ β', Ext β β' s.2.nxt res.2.nxt ∧ RepM E β' w0 res.2 a w)) := by
  unfold settle at h
  split at h
  · rename_i t x y
    split at h
    · exact ⟨res, h, .inl rfl⟩
    · split at h
      · rename_i m c r hst
        obtain ⟨h1, h2⟩ := settleT_ok (E := E) (w0 := w0) hst
        split at h
        · exact ⟨res, h, .inl rfl⟩
        · split at h
          · rename_i hf
            have ec := isF_eq hf
            subst ec
            obtain ⟨s, m', e1, e2, e3⟩ := h2 rfl
            cases e2
            simp only [Out.sel, Option.some.injEq] at h
            subst h
            refine ⟨_, e1, .inr ⟨rfl, rfl, hp, rfl, fun hr => ?_⟩⟩
            obtain ⟨β2, g2, g1⟩ := e3 hr
            exact ⟨β2, g2, nameSt_rep (σ := { m with pc := σ.pc, ro := σ.ro }) hp { tm := g1.tm, df := g1.df, own := g1.own, fresh := g1.fresh, le := g1.le, below := g1.below }⟩
          · simp only [Out.sel] at h
            split at h
            · rename_i hc
              exact ⟨res, by rw [h1 hc]; exact h, .inl rfl⟩
            · rename_i hc
              have hc' : (c.den E).toB = false := by simpa using hc
              obtain ⟨s, m', e1, e2, e3⟩ := h2 hc'
              cases e2
              simp only [Option.some.injEq] at h
              subst h
              have hp' := addF_ok c hp hc'
              refine ⟨_, e1, .inr ⟨rfl, rfl, hp', rfl, fun hr => ?_⟩⟩
              obtain ⟨β2, g2, g1⟩ := e3 hr
              exact ⟨β2, g2, nameSt_rep (σ := { m with pc := addF σ.pc c false, ro := σ.ro }) hp' { tm := g1.tm, df := g1.df, own := g1.own, fresh := g1.fresh, le := g1.le, below := g1.below }⟩
      · exact ⟨res, h, .inl rfl⟩
  · exact ⟨res, h, .inl rfl⟩
end
end Go.Sx
