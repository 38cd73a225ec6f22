/- Lists that grow, as open ones: a list gets a name of its own; two lists are made one by a bool. No condition. -/
import Derived.Test.YtfaamogbkekjcaaSxTake
set_option linter.unusedVariables false
set_option linter.unusedSimpArgs false
noncomputable section
namespace Go.Sx
open Go Go.RowKit

section
variable {E : Env}
theorem appC_list {r : Tm} : ∀ {ks : List SK} {cs : List SV} {u : Tm}, cellsT ks cs = some u → ((appC u r).den E).list = (u.den E).list ++ (r.den E).list
  | [], cs, u, h => by
    cases cs with
    | nil => cases h; rfl
    | cons _ _ => cases h
  | k :: ks, [], u, h => by cases h
  | k :: ks, s :: l, u, h => by
    simp only [cellsT] at h
    split at h
    · rename_i k' t u' hu
      split at h
      · cases h
        simp only [appC, Tm.den, Sc.list, List.cons_append, appC_list hu]
      · cases h
    · cases h
theorem cellsT_get : ∀ {ks : List SK} {cs : List SV} {u : Tm}, cellsT ks cs = some u → cs.length = ks.length ∧ (u.den E).list.length = ks.length ∧ ∀ (i : Nat) (x : Sc), (u.den E).list[i]? = some x → ∃ (k : SK) (t : Tm), ks[i]? = some k ∧ cs[i]? = some (.sc k t) ∧ x = .cons (.i k.n) (t.den E)
  | [], cs, u, h => by
    cases cs with
    | nil => cases h; exact ⟨rfl, rfl, fun i x hx => by simp [Tm.den, Sc.list] at hx⟩
    | cons _ _ => cases h
  | k :: ks, [], u, h => by cases h
  | k :: ks, s :: l, u, h => by
    simp only [cellsT] at h
    split at h
    · rename_i k' t u' hu
      split at h
      · rename_i hk
        cases h
        have hkk := SK.n_inj (Nat.eq_of_beq_eq_true hk)
        subst hkk
        obtain ⟨g1, g2, g3⟩ := cellsT_get hu
        refine ⟨by simp [g1], by simp only [Tm.den, Sc.list, List.length_cons, g2], fun i x hx => ?_⟩
        cases i with
        | zero =>
          simp only [Tm.den, Sc.list, List.getElem?_cons_zero, Option.some.injEq] at hx
          subst hx
          exact ⟨k, t, rfl, rfl, rfl⟩
        | succ i =>
          simp only [Tm.den, Sc.list, List.getElem?_cons_succ] at hx
          simpa using g3 i x hx
      · cases h
    · cases h
/-- A row and rows. -/
theorem RowsOk.front {ks : List SK} {l : Nat} {a b : List Sc} (h : RowsOk (kScs ks) (l : Nat) b) (ha : a.length = ks.length) (hk : ∀ (i : Nat) (x : Sc), a[i]? = some x → ∃ (k : SK) (c : Sc), ks[i]? = some k ∧ x = .cons (.i k.n) c) : RowsOk (kScs ks) ((l + 1 : Nat) : Int) (a ++ b) := by
  have hlen : (kScs ks).length = ks.length := by simp [kScs]
  have hb := h.len
  refine ⟨by rw [hlen, List.length_append, hb, ha, ← Int.natCast_mul, Nat.succ_mul, Nat.add_comm], fun i x hx => ?_⟩
  rcases Nat.lt_or_ge i a.length with hlo | hhi
  · rw [List.getElem?_append_left hlo] at hx
    obtain ⟨k, c, h1, h2⟩ := hk _ x hx
    refine ⟨c, ?_⟩
    rw [hlen, Nat.mod_eq_of_lt (by omega)]
    have : (kScs ks).getD i .nil = .i k.n := by simp [kScs, List.getD, h1]
    rw [this]; exact h2
  · rw [List.getElem?_append_right hhi] at hx
    obtain ⟨c, h1⟩ := h.2 _ x hx
    refine ⟨c, ?_⟩
    rw [h1, hlen, ha, Nat.mod_eq_sub_mod (by omega : i ≥ ks.length)]
theorem rowsC_get {ks : List SK} : ∀ {n : Nat} {cs : List SV} {t : Tm}, rowsC ks n cs = some t → RowsOk (kScs ks) (n : Nat) (t.den E).list ∧ ∀ (i : Nat) (x : Sc), (t.den E).list[i]? = some x → ∃ (k : SK) (u : Tm), cs[i]? = some (.sc k u) ∧ x = .cons (.i k.n) (u.den E)
  | 0, cs, t, h => by
    cases cs with
    | nil => cases h; exact ⟨⟨by simp [Tm.den, Sc.list], fun i x hx => by simp [Tm.den, Sc.list] at hx⟩, fun i x hx => by simp [Tm.den, Sc.list] at hx⟩
    | cons _ _ => cases h
  | n + 1, cs, t, h => by
    simp only [rowsC] at h
    split at h
    · rename_i u r hu hr
      cases h
      obtain ⟨g1, g2, g3⟩ := cellsT_get (E := E) hu
      obtain ⟨k1, k2⟩ := rowsC_get hr
      rw [appC_list hu]
      refine ⟨k1.front g2 fun i x hx => by
        obtain ⟨k, t, e1, _, e3⟩ := g3 i x hx
        exact ⟨k, _, e1, e3⟩, fun i x hx => ?_⟩
      rcases Nat.lt_or_ge i (u.den E).list.length with hlo | hhi
      · rw [List.getElem?_append_left hlo] at hx
        obtain ⟨k, t, e1, e2, e3⟩ := g3 i x hx
        rw [List.getElem?_take, if_pos (by omega)] at e2
        exact ⟨k, t, e2, e3⟩
      · rw [List.getElem?_append_right hhi] at hx
        obtain ⟨k, t, e1, e2⟩ := k2 _ x hx
        rw [List.getElem?_drop, g2, show ks.length + (i - ks.length) = i by omega] at e1
        exact ⟨k, t, e1, e2⟩
    · cases h
end
section
variable {P : Program} {E : Env} {β : Pl} {w0 w : World} {a : Act}
/-- A list that grows can be read as an open one. -/
theorem openT_ok {B : Nat} {own : Mem} {ks : List SK} {s : SV} {x : OL} {v : Value} (hown : Owns E β B own w) (hv : SV.rep E β s v) (ho : openT own ks s = some x) :
    ∃ b b', β x.j = some b ∧ (∃ sb, (x.j, sb) ∈ own) ∧ b'.blk = b.blk ∧ (∀ β' : Pl, SB.reads E β' ⟨[], some (x.e, x.z, 0)⟩ b' w) ∧ SB.owns ⟨[], some (x.e, x.z, 0)⟩ b' w ∧ B ≤ b'.blk ∧
      ∀ (β' : Pl) (m : Nat) (u : Value), β' m = some b' → SV.rep E β s u → SV.rep E β' (.og m ks x.n x.t) u := by
  unfold openT at ho
  split at ho
  · rename_i j ks' n t
    split at ho
    · rename_i sb hks hsb
      split at ho
      · rename_i e z hrow
        cases ho
        have := eqKs_eq hks
        subst this
        obtain ⟨b, hb, hr, hB, h0, arr, e2, hh, hrw⟩ := hown.ent j sb (find_mem hsb)
        rw [hrow] at hrw
        simp only at hrw
        obtain ⟨rfl, g1, g2, g3, g4⟩ := hrw
        refine ⟨b, b, hb, ⟨sb, find_mem hsb⟩, rfl, fun β' => ⟨hr.1, fun i s hi => by simp at hi, hr.3.imp id fun g => ⟨rfl, g.2⟩, fun e' s' h => by cases h; exact hr.4 _ _ hrow⟩, ⟨h0, arr, e2, hh, rfl, g1, Nat.zero_le _, g3, by simp⟩, hB, fun β' m u hm hu => ?_⟩
        simp only [SV.rep] at hu ⊢
        obtain ⟨b3, l, hb3, k⟩ := hu
        rw [hb] at hb3; cases hb3
        exact ⟨b, l, hm, k⟩
      · cases ho
    · cases ho
  · rename_i j n
    split at ho
    · rename_i sb hsb
      split at ho
      · rename_i e z k hrow
        split at ho
        · rename_i t hkn hzk hz0 hrows
          cases ho
          have e1 := Nat.eq_of_beq_eq_true hkn
          have e2 := Nat.eq_of_beq_eq_true hzk
          have e3 : 0 < z := by simpa [Nat.blt_eq] using hz0
          subst e1; subst e2
          obtain ⟨b, hb, hr, hB, h0, arr, e2, hh, hrw⟩ := hown.ent j sb (find_mem hsb)
          rw [hrow] at hrw
          simp only at hrw
          obtain ⟨rfl, g1, g2, g3, g4⟩ := hrw
          obtain ⟨r1, r2⟩ := rowsC_get (E := E) hrows
          have hval0 : b.val = [] := by
            simp only [SV.rep] at hv
            obtain ⟨b3, hb3, _, _, h4⟩ := hv
            rw [hb] at hb3; cases hb3
            exact h4
          refine ⟨b, ⟨b.blk, 0, b.cap, (t.den E).list⟩, hb, ⟨sb, find_mem hsb⟩, rfl, fun β' => ⟨hr.1, fun i s hi => by simp at hi, .inr ⟨rfl, fun i x hx => ?_⟩, fun e' s' h hnil => ?_⟩, ⟨rfl, arr, e2, hh, rfl, g1, Nat.zero_le _, g3, by simp⟩, hB, fun β' m u hm hu => ?_⟩
          · obtain ⟨kd, t', c1, c2⟩ := r2 i x hx
            obtain ⟨v', q1, q2, q3⟩ := hr.2 i _ c1
            refine ⟨v', ?_, q2, kd, t'.den E, c2, by simpa [SV.rep] using q3⟩
            rw [h0] at q1
            exact q1
          · have hl := r1.len
            simp only at hnil
            rw [hnil] at hl
            simp only [List.length_nil] at hl
            have hk0 : k = 0 := by
              rcases Nat.eq_zero_or_pos k with h | h
              · exact h
              · have := Nat.mul_pos h e3; omega
            subst hk0
            exact hr.4 _ _ hrow hval0
          · simp only [SV.rep] at hu ⊢
            obtain ⟨b3, hb3, k0, k1, k2⟩ := hu
            rw [hb] at hb3; cases hb3
            exact ⟨_, k, hm, k1, g2, Nat.le_trans g2 g3, by simp [Tm.den], rfl, r1⟩
        · cases ho
      · cases ho
    · cases ho
  · cases ho

theorem swapV_rep {β' : Pl} {s s' : SV} (hs : ∀ u, SV.rep E β s u → SV.rep E β' s' u) (hm : Pl.le β β') {u : SV} {v : Value} (h : SV.rep E β u v) : SV.rep E β' (swapV s s' u) v := by
  unfold swapV
  split
  · rename_i he
    rw [SV.beq_eq u s he] at h
    exact hs v h
  · exact SV.rep_mono hm _ _ h
theorem reps_mapB {β' : Pl} {f : SV → SV} (hf : ∀ s v, SV.rep E β s v → SV.rep E β' (f s) v) : ∀ {l : List SV} {vs : List Value}, SV.reps E β l vs → SV.reps E β' (l.map f) vs
  | [], vs, h => by simpa using h
  | s :: r, vs, h => by
    simp only [SV.reps] at h
    obtain ⟨v, rest, rfl, h1, h2⟩ := h
    simp only [List.map_cons, reps_cons]
    exact ⟨hf s v h1, reps_mapB hf h2⟩
theorem reopen_rep {σ : St} {ks : List SK} {s : SV} {x : OL} {m : Nat} (h : RepM E β w0 σ a w) (hs : ∃ v, SV.rep E β s v) (ho : openT σ.own ks s = some x) (hm : σ.nxt ≤ m) (hl : m < σ.lim) :
    ∃ β', Ext β β' σ.nxt (m + 1) ∧ RepM E β' w0 (reopen m ks s x σ) a w := by
  obtain ⟨v, hv⟩ := hs
  obtain ⟨b, b', hb, ⟨sb0, hsb0⟩, hblk, hrd, hwn, hB, hrep⟩ := openT_ok h.own hv ho
  have hnone : β m = none := h.fresh m hm hl
  have hmono : Pl.le β (upd β m b') := fun j y hy => by
    unfold upd
    split
    · rename_i e; subst e; rw [hnone] at hy; cases hy
    · exact hy
  have hat : upd β m b' m = some b' := by simp [upd]
  have old : ∀ j sb, (j, sb) ∈ dropB σ.own x.j → j ≠ x.j ∧ (j, sb) ∈ σ.own := fun j sb hj => dropB_mem hj
  refine ⟨upd β m b', ⟨hmono, fun j hj => by unfold upd; rw [if_neg (by omega)], by omega⟩, { tm := ?_, df := h.df, own := ⟨fun j sb hj => ?_, fun j sb j' sb' c c' hj hj' hne hc hc' => ?_⟩, fresh := fun j h1 h2 => ?_, le := ?_, below := h.below }⟩
  · exact reps_mapB (fun u v hu => swapV_rep (fun v' hv' => hrep _ m v' hat hv') hmono hu) h.tm
  · rcases List.mem_cons.1 hj with hj | hj
    · cases hj
      exact ⟨b', hat, hrd _, hB, hwn⟩
    · obtain ⟨_, hj⟩ := old j sb hj
      obtain ⟨c, hc, hr, hB2, hw2⟩ := h.own.ent j sb hj
      exact ⟨c, hmono j c hc, SB.reads_below hr hmono (Below.refl _ _), hB2, hw2⟩
  · have known : ∀ j sb c, (j, sb) ∈ dropB σ.own x.j → upd β m b' j = some c → c.blk ≠ b.blk := by
      intro j sb c hj hc
      obtain ⟨hjx, hj⟩ := old j sb hj
      obtain ⟨c2, hc2, _⟩ := h.own.ent j sb hj
      have := hmono j c2 hc2
      rw [hc] at this; cases this
      exact h.own.apart j sb x.j sb0 _ _ hj hsb0 hjx hc2 hb
    rcases List.mem_cons.1 hj with hj | hj <;> rcases List.mem_cons.1 hj' with hj' | hj'
    · cases hj; cases hj'; exact absurd rfl hne
    · cases hj
      rw [hat] at hc; cases hc
      rw [hblk]
      exact fun e => known j' sb' c' hj' hc' e.symm
    · cases hj'
      rw [hat] at hc'; cases hc'
      rw [hblk]
      exact known j sb c hj hc
    · obtain ⟨_, g1⟩ := old j sb hj
      obtain ⟨_, g2⟩ := old j' sb' hj'
      obtain ⟨c2, hc2, _⟩ := h.own.ent j sb g1
      obtain ⟨c3, hc3, _⟩ := h.own.ent j' sb' g2
      have e1 := hmono j c2 hc2
      have e2 := hmono j' c3 hc3
      rw [hc] at e1; rw [hc'] at e2
      cases e1; cases e2
      exact h.own.apart j sb j' sb' _ _ g1 g2 hne hc2 hc3
  · have h1' : m + 1 ≤ j := h1
    unfold upd
    rw [if_neg (by omega)]
    exact h.fresh j (by omega) h2
  · exact hl
end
end Go.Sx
