/- The symbolic executor is sound, second part: append, and one operation of a function. No condition. -/
import Derived.Test.YtfaamogbkekjcaaSxRunS
set_option linter.unusedVariables false
set_option linter.unusedSimpArgs false
noncomputable section
namespace Go.Sx
open Go Go.RowKit

section
variable {P : Program} {E : Env} {β : Pl} {w0 w : World} {H : Hnd} {σ σ' : St} {a : Act}

/-- The cells behind a slice, as values. -/
theorem sliceCells_run (P' : Program) {mem : Mem} {size n : Nat} {s : SV} {cs : List SV} (h : sliceCells mem size s = some (n, cs)) (hm : Reads E β mem w) {v : Value} (hr : SV.rep E β s v) :
    ∃ ad c vs, v = .slice (some ad) n c ∧ vs.length = n * size ∧ SV.reps E β cs vs ∧ (∀ u ∈ vs, u.oneCell' = true) ∧ ∀ j u, vs[j]? = some u → w.cell? (ad.add j) = some u := by
  unfold sliceCells at h
  split at h
  · rename_i j o n'
    split at h
    · rename_i sb hsb
      split at h
      · rename_i x hx
        cases h
        simp only [SV.rep] at hr
        obtain ⟨b, c, hbj, rfl, _⟩ := hr
        obtain ⟨b', hb', hreads⟩ := hm j sb (find_mem hsb)
        rw [hbj] at hb'; cases hb'
        obtain ⟨vs, _, h1, h2, h3, h4⟩ := loadCells_run (P := P') hreads hx
        exact ⟨_, c, vs, rfl, h1, h2, h3, fun j u hu => by rw [add_at]; exact h4 j u hu⟩
      · cases h
    · cases h
  · rename_i j n'
    split at h
    · rename_i sb hsb
      split at h
      · rename_i x hx
        cases h
        simp only [SV.rep] at hr
        obtain ⟨b, hbj, h0, rfl, _⟩ := hr
        obtain ⟨b', hb', hreads⟩ := hm j sb (find_mem hsb)
        rw [hbj] at hb'; cases hb'
        obtain ⟨vs, _, h1, h2, h3, h4⟩ := loadCells_run (P := P') hreads hx
        refine ⟨_, _, vs, rfl, h1, h2, h3, fun j u hu => ?_⟩
        have := h4 j u hu
        rw [add_at]
        simpa [h0] using this
      · cases h
    · cases h
  · cases h

theorem append_gs {t ty e : TypeId} {i : TypeInfo} {z : Value} (ht : P.underlying t = some (.slice e)) (hi : P.info? e = some i) (hz : i.zero = some z) (hzs : z.cells.size = i.size) (hpos : 0 < i.size)
    {g k cap : Nat} {cur : Array Value} (hg : w.heap[g]? = some (.cells cur e (0, 0))) (hk : k ≤ cap) (hcm : cap ≤ maxLen) (hcs : cur.size = cap * i.size)
    {ad : Addr} {n c : Nat} {news : List Value} (hl : news.length = n * i.size) (hnews : ∀ j u, news[j]? = some u → w.cell? (ad.add j) = some u) (h1 : ∀ u ∈ news, u.oneCell' = true) (hb : (k + n) * i.bytes ≤ 140737488355328) (h63 : k + n ≤ maxLen) :
    ∃ w' g' cap' cur', (Builtin.append_ #[t, t] ty #[.slice (some ⟨g, 0, none⟩) k cap, .slice (some ad) n c]).run P w = .ok (.slice (some ⟨g', 0, none⟩) (k + n) cap') w' ∧
      w'.heap[g']? = some (.cells cur' e (0, 0)) ∧ k + n ≤ cap' ∧ cap' ≤ maxLen ∧ cur'.size = cap' * i.size ∧ cur'.toList.take ((k + n) * i.size) = cur.toList.take (k * i.size) ++ news ∧
      (g' = g ∨ g' = w.heap.size) ∧ w.grownBy w' (some g) := by
  have hown : w.ownsRow 0 e i.size (.slice (some ⟨g, 0, none⟩) k cap) k (cur.toList.take (k * i.size)) := by
    refine ⟨?_, .inr ⟨g, cap, cur, rfl, Nat.zero_le _, hg, hk, hcm, hcs, rfl⟩⟩
    rw [List.length_take, Array.length_toList, hcs]
    exact Nat.min_eq_left (Nat.mul_le_mul_right _ hk)
  obtain ⟨v', w', hrun, hown', hgr, _⟩ := run_append_own (P := P) w 0 t ty e i z i.size i.bytes ht hi hz rfl rfl hzs hpos _ k _ hown ad n c news hl hnews h1 h63 hb (Nat.zero_le _)
  have hblk : ∃ g', (∃ cap', v' = .slice (some ⟨g', 0, none⟩) (k + n) cap') ∧ (g' = g ∨ g' = w.heap.size) := by
    by_cases hroom : k + n ≤ cap
    · have hfit : k * i.size + news.length ≤ cur.size := by rw [hl, hcs, ← Nat.add_mul]; exact Nat.mul_le_mul_right _ hroom
      have hr := run_append_room (P := P) w t ty e i ht hi g k cap cur hg ad n c news hl hnews h1 hroom hfit
      rw [hrun] at hr
      simp only [Result.ok.injEq] at hr
      exact ⟨g, ⟨_, hr.1⟩, .inl rfl⟩
    · have hlen := hown.1
      have holds : ∀ j u, (cur.toList.take (k * i.size))[j]? = some u → w.cell? ((⟨g, 0, none⟩ : Addr).add j) = some u := hown.cells (g := g) rfl
      have hsmall : ((k + n : Nat) : Int) ≤ 9223372036854775807 := by simp only [maxLen] at h63; omega
      have hr := run_append_grow (P := P) w t ty e i z ht hi hz ⟨g, 0, none⟩ k cap _ hlen holds ad n c news hl hnews (by omega) hsmall (growslice_fits (by omega) hb)
      rw [hrun] at hr
      simp only [Result.ok.injEq] at hr
      exact ⟨w.heap.size, ⟨_, hr.1⟩, .inr rfl⟩
  obtain ⟨g', ⟨cap', hv'⟩, hg'⟩ := hblk
  rcases hown'.2 with ⟨hn, _⟩ | ⟨g2, cap2, cur2, hv2, _, hh2, hn2, hc2, hs2, ht2⟩
  · rw [hv'] at hn; cases hn
  · rw [hv'] at hv2
    cases hv2
    exact ⟨w', _, _, cur2, hv' ▸ hrun, hh2, hn2, hc2, hs2, ht2, hg', hgr⟩

theorem append_nil {t ty e : TypeId} {i : TypeInfo} {z : Value} (ht : P.underlying t = some (.slice e)) (hi : P.info? e = some i) (hz : i.zero = some z) (hzs : z.cells.size = i.size) (hpos : 0 < i.size)
    {ad : Addr} {n c : Nat} {news : List Value} (hl : news.length = n * i.size) (hnews : ∀ j u, news[j]? = some u → w.cell? (ad.add j) = some u) (h1 : ∀ u ∈ news, u.oneCell' = true) (hb : n * i.bytes ≤ 140737488355328) (h63 : n ≤ maxLen) :
    ∃ w', w.grownBy w' none ∧ ((n = 0 ∧ (Builtin.append_ #[t, t] ty #[.slice none 0 0, .slice (some ad) n c]).run P w = .ok (.slice none 0 0) w') ∨
      ∃ g' cap' cur', (Builtin.append_ #[t, t] ty #[.slice none 0 0, .slice (some ad) n c]).run P w = .ok (.slice (some ⟨g', 0, none⟩) n cap') w' ∧ n ≠ 0 ∧
        w'.heap[g']? = some (.cells cur' e (0, 0)) ∧ n ≤ cap' ∧ cap' ≤ maxLen ∧ cur'.size = cap' * i.size ∧ cur'.toList.take (n * i.size) = news ∧ w.heap.size ≤ g') := by
  obtain ⟨v', w', hrun, hown', hgr, hiff⟩ := run_append_own (P := P) w w.heap.size t ty e i z i.size i.bytes ht hi hz rfl rfl hzs hpos _ 0 [] (World.ownsRow_nil _ _ _ _) ad n c news hl hnews h1 (by omega) (by simpa using hb) (Nat.le_refl _)
  simp only [Nat.zero_add, List.nil_append] at hown'
  refine ⟨w', hgr, ?_⟩
  rcases hown'.2 with ⟨hv, hn⟩ | ⟨g2, cap2, cur2, hv2, hb2, hh2, hn2, hc2, hs2, ht2⟩
  · exact .inl ⟨hn, hv ▸ hrun⟩
  · refine .inr ⟨g2, cap2, cur2, hv2 ▸ hrun, ?_, hh2, hn2, hc2, hs2, ht2, hb2⟩
    intro h0
    have := hiff.2 ⟨rfl, h0⟩
    rw [hv2] at this; cases this

/-- A list of cells that begins with known values. -/
theorem row_cells {cs : List SV} {vs : List Value} {cur : Array Value} {g cap : Nat} {e : TypeId} (hr : SV.reps E β cs vs) (h1 : ∀ u ∈ vs, u.oneCell' = true) (hh : w.heap[g]? = some (.cells cur e (0, 0)))
    (ht : cur.toList.take vs.length = vs) : SB.reads E β ⟨cs, none⟩ ⟨g, 0, cap, []⟩ w := by
  refine ⟨(Array.getElem?_eq_some_iff.1 hh).1, fun i s hi => ?_, .inl rfl, fun _ _ h => by cases h⟩
  obtain ⟨v, hv, hrep⟩ := reps_get hr hi
  refine ⟨v, ?_, h1 v (List.mem_of_getElem? hv), hrep⟩
  have hlt := (List.getElem?_eq_some_iff.1 hv).1
  rw [← ht, List.getElem?_take, if_pos hlt, Array.getElem?_toList] at hv
  simpa [World.cell?, hh] using hv

theorem dropB_mem : ∀ {mem : Mem} {j : Nat} {x : Nat × SB}, x ∈ dropB mem j → x.1 ≠ j ∧ x ∈ mem
  | [], _, _, h => by cases h
  | (i, y) :: r, j, x, h => by
    simp only [dropB] at h
    split at h
    · have := dropB_mem h; exact ⟨this.1, List.mem_cons_of_mem _ this.2⟩
    · rename_i hij
      rcases List.mem_cons.1 h with rfl | h
      · exact ⟨fun e => by simp only at e; subst e; simp at hij, List.mem_cons_self ..⟩
      · have := dropB_mem h; exact ⟨this.1, List.mem_cons_of_mem _ this.2⟩

/-- A state behind an append: the block of the slice has grown, in its place or in a new one. -/
theorem RepS.grownB (h : RepS E β w0 σ a w) {w' : World} {row : Option Nat} {own : Mem} (hgr : w.grownBy w' row) (hrow : ∀ k, row = some k → w0.heap.size ≤ k)
    (hlt : σ.nxt < σ.lim) {nb : Bs} {nsb : SB} {s : SV} {v : Value} (hg : w0.heap.size ≤ nb.blk) (hrd : SB.reads E (upd β σ.nxt nb) nsb nb w') (hwn : SB.owns nsb nb w') (hsv : SV.rep E (upd β σ.nxt nb) s v)
    (hsub : ∀ x, x ∈ own → x ∈ σ.own) (hoth : ∀ j sb b, (j, sb) ∈ own → β j = some b → some b.blk ≠ row ∧ b.blk ≠ nb.blk) (d : Option Tmp) :
    RepS E (upd β σ.nxt nb) w0 { σ with tm := putT σ.tm d s, own := (σ.nxt, nsb) :: own, nxt := σ.nxt + 1 } (a.put d v) w' := by
  have hmono : Pl.le β (upd β σ.nxt nb) := upd_le h.fresh hlt _
  have hat : upd β σ.nxt nb σ.nxt = some nb := by simp [upd]
  have hB : Below w0.heap.size w w' := ⟨hgr.os, hgr.tape, hgr.output, hgr.size, fun k hk => hgr.block k (Nat.lt_of_lt_of_le hk h.below.size) (fun e => by have := hrow k e.symm; omega)⟩
  have old : ∀ j sb, (j, sb) ∈ own → ∃ b, β j = some b ∧ SB.reads E (upd β σ.nxt nb) sb b w' ∧ w0.heap.size ≤ b.blk ∧ SB.owns sb b w' := by
    intro j sb hj
    obtain ⟨b, hb, hr, hBb, h0, arr, eb, hhb, hrw⟩ := h.own.ent j sb (hsub _ hj)
    have hne := (hoth j sb b hj hb).1
    have hsame : w'.heap[b.blk]? = w.heap[b.blk]? := hgr.block _ hr.1 hne
    refine ⟨b, hb, ⟨Nat.lt_of_lt_of_le hr.1 hgr.size, fun q s hq => ?_, hr.3.imp id fun ⟨g1, g2⟩ => ⟨g1, fun q x hq => ?_⟩, hr.4⟩, hBb, h0, arr, eb, hsame.trans hhb, hrw⟩
    · obtain ⟨v, hv, hv1, hv2⟩ := hr.2 q s hq
      exact ⟨v, (World.cell?_of_block (a := ⟨b.blk, b.off + q, none⟩) hsame).trans hv, hv1, SV.rep_mono hmono _ _ hv2⟩
    · obtain ⟨v, hv, hv1⟩ := g2 q x hq
      exact ⟨v, (World.cell?_of_block (a := ⟨b.blk, b.off + q, none⟩) hsame).trans hv, hv1⟩
  refine { tm := putT_rep (SV.reps_mono hmono _ _ h.tm) hsv d, df := (put_defers a _ _).trans h.df, own := ⟨fun j sb hj => ?_, fun j sb j' sb' b b' hj hj' hne hb hb' => ?_⟩, fresh := fun j h1 h2 => ?_, le := hlt, below := h.below.trans hB, ro := h.ro.below hmono (Below.refl _ _), pc := h.pc }
  · rcases List.mem_cons.1 hj with hj | hj
    · cases hj
      exact ⟨_, hat, hrd, hg, hwn⟩
    · obtain ⟨b, hb, hrest⟩ := old j sb hj
      exact ⟨b, hmono j b hb, hrest⟩
  · rcases List.mem_cons.1 hj with hj | hj <;> rcases List.mem_cons.1 hj' with hj' | hj'
    · cases hj; cases hj'; exact absurd rfl hne
    · cases hj
      obtain ⟨x, hx, _⟩ := h.own.ent j' sb' (hsub _ hj')
      have hx' := hmono j' x hx
      rw [hb'] at hx'; cases hx'
      rw [hat] at hb; cases hb
      exact fun e => (hoth j' sb' b' hj' hx).2 e.symm
    · cases hj'
      obtain ⟨x, hx, _⟩ := h.own.ent j sb (hsub _ hj)
      have hx' := hmono j x hx
      rw [hb] at hx'; cases hx'
      rw [hat] at hb'; cases hb'
      exact (hoth j sb b hj hx).2
    · obtain ⟨x, hx, _⟩ := h.own.ent j sb (hsub _ hj)
      obtain ⟨y, hy, _⟩ := h.own.ent j' sb' (hsub _ hj')
      have hx' := hmono j x hx
      have hy' := hmono j' y hy
      rw [hb] at hx'; rw [hb'] at hy'
      cases hx'; cases hy'
      exact h.own.apart j sb j' sb' _ _ (hsub _ hj) (hsub _ hj') hne hx hy
  · have h1' : σ.nxt + 1 ≤ j := h1
    unfold upd
    rw [if_neg (by omega)]
    exact h.fresh j (by omega) h2
theorem RepS.grown (h : RepS E β w0 σ a w) {w' : World} {row : Option Nat} {own : Mem} (hgr : w.grownBy w' row) (hrow : ∀ k, row = some k → w0.heap.size ≤ k)
    (hlt : σ.nxt < σ.lim) {g cap : Nat} {cs : List SV} {e size n : Nat} {cur : Array Value} {vs : List Value} (hcs : SV.reps E β cs vs) (h1 : ∀ u ∈ vs, u.oneCell' = true)
    (hh : w'.heap[g]? = some (.cells cur e (0, 0))) (hn : n ≤ cap) (hcm : cap ≤ maxLen) (hsz : cur.size = cap * size) (htake : cur.toList.take vs.length = vs) (hlen : vs.length = n * size) (hg : w0.heap.size ≤ g) (hn0 : n ≠ 0)
    (hsub : ∀ x, x ∈ own → x ∈ σ.own) (hoth : ∀ j sb b, (j, sb) ∈ own → β j = some b → some b.blk ≠ row ∧ b.blk ≠ g) (d : Option Tmp) :
    RepS E (upd β σ.nxt ⟨g, 0, cap, []⟩) w0 { σ with tm := putT σ.tm d (.gs σ.nxt n), own := (σ.nxt, ⟨cs, some (e, size, n)⟩) :: own, nxt := σ.nxt + 1 } (a.put d (.slice (some ⟨g, 0, none⟩) n cap)) w' := by
  have hmono : Pl.le β (upd β σ.nxt ⟨g, 0, cap, []⟩) := upd_le h.fresh hlt _
  have hat : upd β σ.nxt ⟨g, 0, cap, []⟩ σ.nxt = some ⟨g, 0, cap, []⟩ := by simp [upd]
  have hr := row_cells (cap := cap) (SV.reps_mono hmono _ _ hcs) h1 hh htake
  exact h.grownB hgr hrow hlt (nb := ⟨g, 0, cap, []⟩) (nsb := ⟨cs, some (e, size, n)⟩) (s := .gs σ.nxt n) hg ⟨hr.1, hr.2, .inl rfl, fun _ _ h _ => by cases h; exact absurd rfl hn0⟩ ⟨rfl, cur, e, hh, rfl, hsz, hn, hcm, by have := reps_length hcs; show cs.length = _; omega⟩ (by simp only [SV.rep]; exact ⟨_, hat, rfl, rfl, rfl⟩) hsub hoth d
/-- Cells of these kinds, and the values that they stand for. -/
theorem cellsT_rep : ∀ {ks : List SK} {cs : List SV} {u : Tm} {vs : List Value}, cellsT ks cs = some u → SV.reps E β cs vs → (u.den E).list.length = ks.length ∧ vs.length = ks.length ∧ ∀ (i : Nat) (x : Sc), (u.den E).list[i]? = some x → ∃ v : Value, vs[i]? = some v ∧ ∃ (k : SK) (c : Sc), ks[i]? = some k ∧ x = .cons (.i k.n) c ∧ k.rep c v
  | [], cs, u, vs, h, hr => by
    cases cs with
    | nil =>
      cases h
      simp at hr
      subst hr
      exact ⟨rfl, rfl, fun i x hx => by simp [Tm.den, Sc.list] at hx⟩
    | cons _ _ => cases h
  | k :: ks, [], u, vs, h, hr => by cases h
  | k :: ks, s :: r, u, vs, h, hr => by
    simp only [cellsT] at h
    split at h
    · rename_i k' t u' hu
      split at h
      · rename_i hk
        cases h
        have hkk := SK.n_inj (Nat.eq_of_beq_eq_true hk)
        subst hkk
        simp only [SV.reps] at hr
        obtain ⟨v, rest, rfl, h1, h2⟩ := hr
        obtain ⟨g1, g3, g2⟩ := cellsT_rep hu h2
        refine ⟨by simp only [Tm.den, Sc.list, List.length_cons, g1], by simp only [List.length_cons, g3], fun i x hx => ?_⟩
        cases i with
        | zero =>
          simp only [Tm.den, Sc.list, List.getElem?_cons_zero, Option.some.injEq] at hx
          subst hx
          exact ⟨v, rfl, k, t.den E, rfl, rfl, h1⟩
        | succ i =>
          simp only [Tm.den, Sc.list, List.getElem?_cons_succ] at hx
          simpa using g2 i x hx
      · cases h
    · cases h
/-- Rows and one row more. -/
theorem RowsOk.more {ks : List SK} {l : Nat} {a b : List Sc} (h : RowsOk (kScs ks) (l : Nat) a) (hb : b.length = ks.length) (hk : ∀ (i : Nat) (x : Sc), b[i]? = some x → ∃ (k : SK) (c : Sc), ks[i]? = some k ∧ x = .cons (.i k.n) c) : RowsOk (kScs ks) ((l + 1 : Nat) : Int) (a ++ b) := by
  have hlen : (kScs ks).length = ks.length := by simp [kScs]
  have ha : a.length = l * ks.length := by
    have := h.1
    rw [hlen, ← Int.natCast_mul] at this
    exact Int.ofNat.inj this
  refine ⟨by rw [hlen, List.length_append, ha, hb, ← Int.natCast_mul, Nat.succ_mul], fun i x hx => ?_⟩
  rcases Nat.lt_or_ge i a.length with hlo | hhi
  · rw [List.getElem?_append_left hlo] at hx
    exact h.2 i x hx
  · rw [List.getElem?_append_right hhi] at hx
    obtain ⟨k, c, h1, h2⟩ := hk _ x hx
    have hlt := (List.getElem?_eq_some_iff.1 h1).1
    refine ⟨c, ?_⟩
    rw [hlen]
    have e : i % ks.length = i - a.length := by
      have : i = (i - a.length) + ks.length * l := by rw [Nat.mul_comm, ← ha]; omega
      rw [this, Nat.add_mul_mod_self_left]
      have e2 : i - a.length + ks.length * l - a.length = i - a.length := by rw [← this]
      rw [e2]
      exact Nat.mod_eq_of_lt hlt
    rw [e]
    have : (kScs ks).getD (i - a.length) .nil = .i k.n := by simp [kScs, List.getD, h1]
    rw [this]; exact h2
theorem RowsOk.len {ks : List SK} {l : Nat} {a : List Sc} (h : RowsOk (kScs ks) (l : Nat) a) : a.length = l * ks.length := by
  have hlen : (kScs ks).length = ks.length := by simp [kScs]
  have := h.1
  rw [hlen, ← Int.natCast_mul] at this
  exact Int.ofNat.inj this
/-- One element more in an open list: what is to be shown of its block. -/
theorem open_grown {b : Bs} {l size cap' g' : Nat} {arr cur' : Array Value} {e : TypeId} {news : List Value} {ks : List SK} {cs : List SV} {u : Tm} {n t : Tm} {w' : World} {β' : Pl} {j' : Nat} (hgen : b.val = [] ∨ GenOk b w) (hoff : b.off = 0) (hheap : w.heap[b.blk]? = some (.cells arr e (0, 0))) (hrows : RowsOk (kScs ks) (l : Nat) b.val) (hks : size = ks.length) (hpos : 0 < size)
    (hcs : cellsT ks cs = some u) (hnr : SV.reps E β cs news) (hn1 : ∀ v ∈ news, v.oneCell' = true) (hnl : news.length = 1 * size) (hh : w'.heap[g']? = some (.cells cur' e (0, 0))) (hsz2 : cur'.size = cap' * size) (hcm' : cap' ≤ maxLen) (hnc' : l + 1 ≤ cap')
    (htake : cur'.toList.take ((l + 1) * size) = arr.toList.take (l * size) ++ news) (has : l * size ≤ arr.size) (hval : b.val = (t.den E).list) (hln : (l : Int) = (n.den E).toI) (hl : l < 1000000) (hat : β' j' = some ⟨g', 0, cap', ((Tm.op .snoc t u).den E).list⟩) :
    SB.reads E β' ⟨[], some (e, size, 0)⟩ ⟨g', 0, cap', ((Tm.op .snoc t u).den E).list⟩ w' ∧ SB.owns ⟨[], some (e, size, 0)⟩ ⟨g', 0, cap', ((Tm.op .snoc t u).den E).list⟩ w' ∧
      SV.rep E β' (.og j' ks (succT n) (.op .snoc t u)) (.slice (some ⟨g', 0, none⟩) (l + 1) cap') := by
  have ev : ((Tm.op .snoc t u).den E).list = b.val ++ (u.den E).list := by
    rw [hval]
    show (Sc.ofList _).list = _
    exact ofList_list _
  obtain ⟨c1, c3, c2⟩ := cellsT_rep hcs hnr
  have hvl : b.val.length = l * size := by rw [hks]; exact hrows.len
  refine ⟨⟨(Array.getElem?_eq_some_iff.1 hh).1, fun i s hi => by simp at hi, .inr ⟨rfl, fun i x hi => ?_⟩, fun e' s h => ?_⟩, ⟨rfl, cur', e, hh, rfl, hsz2, Nat.zero_le _, hcm', by simp⟩, ?_⟩
  · simp only [ev] at hi
    have hcur : ∀ v, (arr.toList.take (l * size) ++ news)[i]? = some v → w'.cell? ⟨g', 0 + i, none⟩ = some v := by
      intro v hv
      rw [← htake] at hv
      have hlt := (List.getElem?_eq_some_iff.1 hv).1
      rw [List.getElem?_take, if_pos (by simp at hlt; omega), Array.getElem?_toList] at hv
      simpa [World.cell?, hh] using hv
    have hlt : (arr.toList.take (l * size)).length = l * size := by rw [List.length_take, Array.length_toList]; omega
    rcases Nat.lt_or_ge i b.val.length with hlo | hhi
    · rw [List.getElem?_append_left hlo] at hi
      rcases hgen with hnil | hg
      · rw [hnil] at hlo; simp at hlo
      · obtain ⟨v, hv, h1, h2⟩ := hg i x hi
        refine ⟨v, hcur v ?_, h1, h2⟩
        rw [List.getElem?_append_left (by omega), List.getElem?_take, if_pos (by omega), Array.getElem?_toList]
        simpa [World.cell?, hheap, hoff] using hv
    · rw [List.getElem?_append_right hhi] at hi
      obtain ⟨v, hv, k, c, h2, h3, h4⟩ := c2 _ x hi
      refine ⟨v, hcur v ?_, hn1 v (List.mem_of_getElem? hv), k, c, h3, h4⟩
      rw [List.getElem?_append_right (by omega), hlt, ← hvl]
      exact hv
  · intro hv
    simp only [ev] at hv
    have hl0 := congrArg List.length hv
    rw [List.length_append, c1, ← hks] at hl0
    simp at hl0
    omega
  · have hw : ((succT n).den E).toI = (l : Int) + 1 := by
      unfold succT
      rw [mkOp_den]
      show IntKind.i64.wrap ((n.den E).toI + 1) = _
      rw [← hln]
      exact wrap_in .i64 (by rw [← kmin_eq]; show (-9223372036854775808 : Int) ≤ _; omega) (by rw [← kmax_eq]; show _ ≤ (9223372036854775807 : Int); omega)
    simp only [SV.rep]
    refine ⟨_, l + 1, hat, rfl, hnc', Nat.le_trans hnc' hcm', by rw [hw]; omega, rfl, ?_⟩
    simp only [ev]
    exact hrows.more c1 fun i x hx => by
      obtain ⟨v, _, k, c, h2, h3, _⟩ := c2 i x hx
      exact ⟨k, c, h2, h3⟩

theorem ble_room {q b : Nat} (h : Nat.ble (q * (b + 1)) 1000000 = true) : q * b ≤ 140737488355328 ∧ q ≤ maxLen := by
  have h1 := Nat.le_of_ble_eq_true h
  rw [Nat.mul_succ] at h1
  unfold maxLen
  omega
theorem roomT_ok {pc : PC} (hp : PcOk E pc) {k : Tm} {b l : Nat} (h : roomT pc k b = true) (hl : (l : Int) = (k.den E).toI) : (l + 1) * b ≤ 140737488355328 ∧ l + 1 ≤ maxLen ∧ l < 1000000 := by
  unfold roomT at h
  split at h
  · rename_i x hh hi
    have h1 := (ivl_ok hp k _ _ hi).2
    have h2 := Nat.le_of_ble_eq_true h
    have h3 : l ≤ hh := by
      have : (l : Int) ≤ Int.ofNat hh := by omega
      exact Int.ofNat_le.1 this
    have h4 : (l + 1) * (b + 1) ≤ 1000000 := Nat.le_trans (Nat.mul_le_mul_right _ (by omega)) h2
    rw [Nat.mul_succ] at h4
    unfold maxLen
    omega
  · cases h
theorem appendS_wp {o : Oper} {t : TypeId} {s x : Operand} (ho : o.op = .call { callee := .builtin .append, args := #[s, x], argTypes := #[t, t] }) (h : RepS E β w0 σ a w)
    (hs : (appendS P σ o.dst t (evalO σ.tm s) (evalO σ.tm x)).sel E = some σ') (K : Act → World → Prop) (Q : Exit → Act → World → Prop)
    (hK : ∀ β' a' w', Ext β β' σ.nxt σ'.nxt → RepS E β' w0 σ' a' w' → K a' w') : o.wp P a w K Q := by
  unfold appendS at hs
  split at hs
  · rename_i e ht
    split at hs
    · rename_i i hi
      split at hs
      · rename_i z hz
        split at hs
        · rename_i n cs hzs hpos hcells hlt
          have hzs' : z.cells.size = i.size := Nat.eq_of_beq_eq_true hzs
          have hpos' : 0 < i.size := by simpa [Nat.blt_eq] using hpos
          have hlt' : σ.nxt < σ.lim := by simpa [Nat.blt_eq] using hlt
          obtain ⟨ad, c, news, hxv, hnl, hnr, hn1, hnc⟩ := sliceCells_run P hcells h.reads (evalO_rep h.tm x)
          have hsv := evalO_rep h.tm s
          have hexec : ∀ v w', (Builtin.append_ #[t, t] o.type #[a.eval s, a.eval x]).run P w = .ok v w' → (execOp a.eval o).run P w = .ok (.value v) w' := by
            intro v w' hr
            simp only [execOp, ho, resolve, invoke, builtin, Sem.run_bind, Sem.run_pure, Result.andThen_ok, List.map_toArray, List.map_cons, List.map_nil, hr]
          split at hs
          · rename_i hse
            rw [hse] at hsv
            simp only [SV.rep] at hsv
            split at hs
            · rename_i hb
              simp only [Out.sel, Option.some.injEq] at hs
              subst hs
              obtain ⟨w', hgr, hc⟩ := append_nil (P := P) (ty := o.type) ht hi hz hzs' hpos' (c := c) hnl hnc hn1 (ble_room hb).1 (ble_room hb).2
              rcases hc with ⟨_, hr⟩ | ⟨_, _, _, _, h0, _⟩
              · unfold Oper.wp
                rw [hexec _ _ (by rw [hsv, hxv]; exact hr)]
                have hB : Below w.heap.size w w' := ⟨hgr.os, hgr.tape, hgr.output, hgr.size, fun k hk => hgr.block k hk (by simp)⟩
                refine hK β _ _ (Ext.refl _ _) { tm := putT_rep h.tm (by simp [SV.rep]) _, df := (put_defers a _ _).trans h.df, own := h.own.below (Pl.le_refl _) hB, fresh := h.fresh, le := h.le, below := h.below.trans (hB.mono h.below.size), ro := h.ro, pc := h.pc }
              · exact absurd rfl h0
            · rename_i n' hne hb
              simp only [Out.sel, Option.some.injEq] at hs
              subst hs
              obtain ⟨w', hgr, hc⟩ := append_nil (P := P) (ty := o.type) ht hi hz hzs' hpos' (c := c) hnl hnc hn1 (ble_room hb).1 (ble_room hb).2
              rcases hc with ⟨h0, _⟩ | ⟨g', cap', cur', hr, _, hh, hnc', hcm, hsz, htake, hge⟩
              · exact absurd h0 (by intro h0; subst h0; exact hne rfl)
              · unfold Oper.wp
                rw [hexec _ _ (by rw [hsv, hxv]; exact hr)]
                refine hK _ _ _ (ext_upd h.fresh hlt' ⟨g', 0, cap', []⟩) (h.grown (row := none) hgr (by simp) hlt' hnr hn1 hh hnc' hcm hsz (by rw [hnl]; exact htake) hnl (Nat.le_trans h.below.size hge) (by intro h0; subst h0; exact hne rfl) (fun _ hx => hx) (fun j sb b hj hb => ⟨by simp, ?_⟩) _)
                obtain ⟨b', hb', hr', _⟩ := h.own.ent j sb hj
                rw [hb] at hb'; cases hb'
                have := hr'.1
                omega
            · cases hs
          · rename_i j k hse
            rw [hse] at hsv
            simp only [SV.rep] at hsv
            obtain ⟨b, hbj, hb0, hsv', _⟩ := hsv
            split at hs
            · rename_i sb hsb
              split at hs
              · rename_i e' sz' k' hrow
                split at hs
                · rename_i he hsz' hk' hb hz0
                  have hz0' : k + n ≠ 0 := fun e => by rw [e] at hz0; cases hz0
                  simp only [Out.sel, Option.some.injEq] at hs
                  subst hs
                  have he2 : e = e' := Nat.eq_of_beq_eq_true he
                  have hs2 : i.size = sz' := Nat.eq_of_beq_eq_true hsz'
                  have hk2 : k = k' := Nat.eq_of_beq_eq_true hk'
                  subst he2; subst hs2; subst hk2
                  have hmem := find_mem hsb
                  obtain ⟨b2, hb2, hreads, hB, h0, arr, e2, hheap, hrw⟩ := h.own.ent j sb hmem
                  rw [hbj] at hb2; cases hb2
                  rw [hrow] at hrw
                  simp only at hrw
                  obtain ⟨rfl, hasz, hkc, hcm, hlen⟩ := hrw
                  obtain ⟨w', g', cap', cur', hr, hh, hnc', hcm', hsz2, htake, hg', hgr⟩ := append_gs (P := P) (ty := o.type) ht hi hz hzs' hpos' hheap hkc hcm hasz (c := c) hnl hnc hn1 (ble_room hb).1 (ble_room hb).2
                  unfold Oper.wp
                  rw [hexec _ _ (by rw [hsv', hxv]; exact hr)]
                  have hcell : ∀ i v, w.cell? ⟨b.blk, b.off + i, none⟩ = some v → arr[i]? = some v := by
                    intro i v hv
                    simpa [World.cell?, hheap, h0] using hv
                  have harr : SV.reps E β sb.cs (arr.toList.take (k * i.size)) := reps_iff.2 ⟨by
                      rw [List.length_take, Array.length_toList, hasz, hlen]
                      exact Nat.min_eq_left (Nat.mul_le_mul_right _ hkc), fun q s hq => by
                    obtain ⟨v, hv, _, hrep⟩ := hreads.2 q s hq
                    have hq' := (List.getElem?_eq_some_iff.1 hq).1
                    exact ⟨v, by rw [List.getElem?_take, if_pos (by omega), Array.getElem?_toList]; exact hcell _ _ hv, hrep⟩⟩
                  have hone : ∀ v ∈ arr.toList.take (k * i.size), v.oneCell' = true := by
                    intro v hv
                    obtain ⟨q, hq, rfl⟩ := List.getElem_of_mem hv
                    have hq3 : q < arr.toList.length := Nat.lt_of_lt_of_le hq (List.length_take_le' _ _)
                    have hq2 : q < sb.cs.length := by simp at hq; omega
                    obtain ⟨v', hv', h1', _⟩ := hreads.2 q _ (List.getElem?_eq_getElem hq2)
                    have := hcell _ _ hv'
                    rw [← Array.getElem?_toList] at this
                    have e2 : (arr.toList.take (k * i.size))[q] = v' := by
                      rw [List.getElem_take]
                      rw [List.getElem?_eq_getElem hq3] at this
                      exact Option.some.inj this
                    rw [e2]; exact h1'
                  have hlen2 : (arr.toList.take (k * i.size) ++ news).length = (k + n) * i.size := by
                    rw [List.length_append, hnl, reps_length harr, hlen, Nat.add_mul]
                  refine hK _ _ _ (ext_upd h.fresh hlt' ⟨g', 0, cap', []⟩) (h.grown (row := some b.blk) hgr (fun q hq => by cases hq; exact hB) hlt' (reps_append harr hnr) (fun u hu => by
                    rcases List.mem_append.1 hu with hu | hu
                    · exact hone u hu
                    · exact hn1 u hu) hh hnc' hcm' hsz2 (by rw [hlen2]; exact htake) hlen2 ?_ hz0' (fun _ hx => (dropB_mem hx).2) (fun q sb2 b2 hq hb2 => ?_) _)
                  · rcases hg' with rfl | rfl
                    · exact hB
                    · exact h.below.size
                  · obtain ⟨hqj, hq'⟩ := dropB_mem hq
                    have hap := h.own.apart q sb2 j sb b2 b hq' hmem hqj hb2 hbj
                    obtain ⟨b3, hb3, hr3, _⟩ := h.own.ent q sb2 hq'
                    rw [hb2] at hb3; cases hb3
                    refine ⟨fun e => hap (Option.some.inj e), ?_⟩
                    rcases hg' with rfl | rfl
                    · exact hap
                    · have := hr3.1; omega
                · cases hs
              · cases hs
            · cases hs
          · rename_i j ks k c0 hse
            rw [hse] at hsv
            simp only [SV.rep] at hsv
            obtain ⟨b, l, hbj, hsv', hlc, hcml, hln, hval, hrows⟩ := hsv
            split at hs
            · rename_i sb hsb
              split at hs
              · rename_i e' sz' u hrow hcu
                split at hs
                · rename_i he hsz' hn1' hroom hks
                  simp only [Out.sel, Option.some.injEq] at hs
                  subst hs
                  have he2 : e = e' := Nat.eq_of_beq_eq_true he
                  have hs2 : i.size = sz' := Nat.eq_of_beq_eq_true hsz'
                  have hn1'' : n = 1 := Nat.eq_of_beq_eq_true hn1'
                  subst he2; subst hs2; subst hn1''
                  have hmem := find_mem hsb
                  obtain ⟨b2, hb2, hreads, hB, h0, arr, e2, hheap, hrw⟩ := h.own.ent j sb hmem
                  rw [hbj] at hb2; cases hb2
                  have hks' : i.size = ks.length := Nat.eq_of_beq_eq_true hks
                  rw [h0] at hsv'
                  rw [hrow] at hrw
                  simp only at hrw
                  obtain ⟨rfl, hasz, _, hcm, _⟩ := hrw
                  obtain ⟨r1, r2, r3⟩ := roomT_ok h.pc hroom hln
                  obtain ⟨w', g', cap', cur', hr, hh, hnc', hcm', hsz2, htake, hg', hgr⟩ := append_gs (P := P) (ty := o.type) ht hi hz (by assumption) hpos' hheap hlc hcm hasz (c := c) hnl hnc hn1 r1 r2
                  unfold Oper.wp
                  rw [hexec _ _ (by rw [hsv', hxv]; exact hr)]
                  have hat : upd β σ.nxt ⟨g', 0, cap', ((Tm.op .snoc c0 u).den E).list⟩ σ.nxt = some ⟨g', 0, cap', ((Tm.op .snoc c0 u).den E).list⟩ := by simp [upd]
                  obtain ⟨q1, q2, q3⟩ := open_grown (w := w) (n := k) (t := c0) (hreads.gen.imp id fun x => x.2) h0 hheap hrows hks' hpos' hcu hnr hn1 hnl hh hsz2 hcm' hnc' htake (by rw [hasz]; exact Nat.mul_le_mul_right _ hlc) hval hln r3 hat
                  refine hK _ _ _ (ext_upd h.fresh hlt' _) (h.grownB (row := some b.blk) hgr (fun q hq => by cases hq; exact hB) hlt' (by
                    rcases hg' with rfl | rfl
                    · exact hB
                    · exact h.below.size) q1 q2 q3 (fun _ hx => (dropB_mem hx).2) (fun q sb2 b2 hq hb2 => ?_) _)
                  obtain ⟨hqj, hq'⟩ := dropB_mem hq
                  have hap := h.own.apart q sb2 j sb b2 b hq' hmem hqj hb2 hbj
                  obtain ⟨b3, hb3, hr3, _⟩ := h.own.ent q sb2 hq'
                  rw [hb2] at hb3; cases hb3
                  refine ⟨fun e => hap (Option.some.inj e), ?_⟩
                  rcases hg' with rfl | rfl
                  · exact hap
                  · have := hr3.1; show b2.blk ≠ w.heap.size; omega
                · cases hs
              · cases hs
            · cases hs
          · cases hs
        · cases hs
      · cases hs
    · cases hs
  · cases hs

theorem isApp_eq {op : Op} {s x : Operand} {t : TypeId} (h : isApp op = some (s, x, t)) : op = .call { callee := .builtin .append, args := #[s, x], argTypes := #[t, t] } := by
  unfold isApp at h
  split at h
  · rename_i c
    split at h
    · rename_i s' x' t' u hc ha ht
      split at h
      · rename_i htu
        simp only [Option.some.injEq, Prod.mk.injEq] at h
        obtain ⟨rfl, rfl, rfl⟩ := h
        have htu' : t' = u := Nat.eq_of_beq_eq_true htu
        subst htu'
        obtain ⟨callee, args, argTypes⟩ := c
        simp only at hc ha ht
        subst hc
        have ha' : args = #[s', x'] := by rw [← Array.toArray_toList (xs := args), ha]
        have ht' : argTypes = #[t', t'] := by rw [← Array.toArray_toList (xs := argTypes), ht]
        subst ha'; subst ht'
        rfl
      · cases h
    · cases h
  · cases h
theorem uns_reps : ∀ (vs : List Value), SV.reps E β (List.replicate vs.length .un) vs
  | [] => by simp
  | v :: vs => by simp only [List.length_cons, List.replicate_succ, reps_cons]; exact ⟨by simp [SV.rep], uns_reps vs⟩
theorem append_zero {t ty e : TypeId} {i : TypeInfo} {z : Value} (ht : P.underlying t = some (.slice e)) (hi : P.info? e = some i) (hz : i.zero = some z)
    {ad : Addr} {n c : Nat} {news : List Value} (hl : news.length = n * i.size) (hnews : ∀ j u, news[j]? = some u → w.cell? (ad.add j) = some u) (hb : n * i.bytes ≤ 140737488355328) (h63 : n ≤ maxLen) (h0 : n ≠ 0) (b : Addr) :
    (Builtin.append_ #[t, t] ty #[.slice (some b) 0 0, .slice (some ad) n c]).run P w = (Builtin.append_ #[t, t] ty #[.slice none 0 0, .slice (some ad) n c]).run P w := by
  have hs : (n : Int) ≤ 9223372036854775807 := by simp only [maxLen] at h63; omega
  rw [run_append_nil (P := P) w t ty e i z ht hi hz ad n c news hl hnews (by omega) hs (by omega),
    run_append_grow (P := P) w t ty e i z ht hi hz b 0 0 [] (by simp) (by simp) ad n c news hl hnews (by omega) (by simpa using hs) (growslice_fits (by omega) (by simpa using hb))]
  simp
theorem noRoom_rep {mem : Mem} {s : SV} {v : Value} (h : noRoom mem s = true) (hm : Reads E β mem w) (hv : SV.rep E β s v) : v = .slice none 0 0 ∨ ∃ b, v = .slice (some b) 0 0 := by
  unfold noRoom at h
  split at h
  · exact .inl (by simpa only [SV.rep] using hv)
  · rename_i j
    split at h
    · rename_i sb hsb
      split at h
      · rename_i e s hrow
        obtain ⟨b, hb, hr⟩ := hm j sb (find_mem hsb)
        simp only [SV.rep] at hv
        obtain ⟨b', hb', _, rfl, hog⟩ := hv
        rw [hb] at hb'; cases hb'
        exact .inr ⟨_, by rw [hr.zc _ _ hrow hog]⟩
      · cases h
    · cases h
  · cases h
theorem appE_wp {o : Oper} {m : Mm} {pc : PC} {ev : Operand → SV} {r : Res} {s x : Operand} {t : TypeId} (hev : ∀ x, SV.rep E β (ev x) (a.eval x)) (ho : isApp o.op = some (s, x, t)) (hno : noRoom m.mem (ev s) = true)
    (hreads : Reads E β m.mem w) (hf : Fresh β m.nxt m.lim) (hp : PcOk E pc) (h : (appE P m pc t (ev x)).sel E = some r) :
    PcOk E r.pc ∧ r.nxt ≤ m.lim ∧ ∀ (K : Act → World → Prop) (Q : Exit → Act → World → Prop), (∀ v w' β', SV.rep E β' r.v v → Step E β β' w w' m.nxt r.nxt r.nb → K (a.put o.dst v) w') → o.wp P a w K Q := by
  have hop := isApp_eq ho
  unfold appE at h
  split at h
  · rename_i e ht
    split at h
    · rename_i i hi
      split at h
      · rename_i z hz
        split at h
        · rename_i n cs hzs hpos hcells hlt
          have hzs' : z.cells.size = i.size := Nat.eq_of_beq_eq_true hzs
          have hpos' : 0 < i.size := by simpa [Nat.blt_eq] using hpos
          have hlt' : m.nxt < m.lim := by simpa [Nat.blt_eq] using hlt
          obtain ⟨ad, c, news, hxv, hnl, hnr, hn1, hnc⟩ := sliceCells_run P hcells hreads (hev x)
          split at h
          · rename_i hb hn0
            have hn0' : n ≠ 0 := fun e => by rw [e] at hn0; cases hn0
            simp only [Out.sel, Option.some.injEq] at h
            subst h
            refine ⟨hp, hlt', fun K Q hK => ?_⟩
            obtain ⟨w', hgr, hc⟩ := append_nil (P := P) (ty := o.type) ht hi hz hzs' hpos' (c := c) hnl hnc hn1 (ble_room hb).1 (ble_room hb).2
            rcases hc with ⟨h0, _⟩ | ⟨g', cap', cur', hr, _, hh, hnc', hcm, hsz, htake, hge⟩
            · exact absurd h0 hn0'
            · have hrun : (Builtin.append_ #[t, t] o.type #[a.eval s, a.eval x]).run P w = .ok (.slice (some ⟨g', 0, none⟩) n cap') w' := by
                rcases noRoom_rep hno hreads (hev s) with hs | ⟨b, hs⟩
                · rw [hs, hxv]; exact hr
                · rw [hs, hxv, append_zero (P := P) (ty := o.type) ht hi hz hnl hnc (ble_room hb).1 (ble_room hb).2 hn0' b]; exact hr
              have hexec : (execOp a.eval o).run P w = .ok (.value (.slice (some ⟨g', 0, none⟩) n cap')) w' := by
                simp only [execOp, hop, resolve, invoke, builtin, Sem.run_bind, Sem.run_pure, Result.andThen_ok, List.map_toArray, List.map_cons, List.map_nil, hrun]
              unfold Oper.wp
              rw [hexec]
              have hle := upd_le hf hlt' ⟨g', 0, cap', []⟩
              have hB : Below w.heap.size w w' := ⟨hgr.os, hgr.tape, hgr.output, hgr.size, fun k hk => hgr.block k hk (by simp)⟩
              refine hK _ w' (upd β m.nxt ⟨g', 0, cap', []⟩) (by simp only [SV.rep]; exact ⟨⟨g', 0, cap', []⟩, by simp [upd], rfl, rfl, rfl⟩)
                ⟨hB, hle, fun j hj => ?_, Nat.le_succ _, ⟨fun j sb hj => ?_, fun j sb j' sb' b b' hj hj' hne => ?_⟩⟩
              · have hj2 : j < m.nxt ∨ m.nxt + 1 ≤ j := hj
                unfold upd; rw [if_neg (by omega)]
              · simp only [List.mem_singleton] at hj
                cases hj
                have hrr := row_cells (cap := cap') (SV.reps_mono hle _ _ hnr) hn1 hh (by rw [hnl]; exact htake)
                exact ⟨⟨g', 0, cap', []⟩, by simp [upd], ⟨hrr.1, hrr.2, .inl rfl, fun _ _ h => by cases h; exact absurd rfl hn0'⟩, hge, rfl, cur', e, hh, rfl, hsz, hnc', hcm, by have := reps_length hnr; show cs.length = _; omega⟩
              · simp only [List.mem_singleton] at hj hj'
                cases hj; cases hj'
                exact absurd rfl hne
          · cases h
        · cases h
      · cases h
    · cases h
  · cases h
/-- An append where the order is open. -/
theorem appD_ok {o : Oper} {own mem : Mem} {m : Mm} {pc : PC} {ev : Operand → SV} {r : Res × Option Nat} {s x : Operand} {t : TypeId} (hev : ∀ x, SV.rep E β (ev x) (a.eval x)) (ho : isApp o.op = some (s, x, t)) (hdf : a.defers = [])
    (hreads : Reads E β m.mem w) (hown : Owns E β w0.heap.size mem w) (hbel : Below w0.heap.size w0 w) (hf : Fresh β m.nxt m.lim) (hp : PcOk E pc) (h : (appD P own m pc t (ev s) (ev x)).sel E = some r) :
    ∃ j sb, r.2 = some j ∧ find own j = some sb ∧ r.1.pc = pc ∧ r.1.nxt = m.nxt + 1 ∧ m.nxt < m.lim ∧ ((j, sb) ∈ mem → ∀ (K : Act → World → Prop) (Q : Exit → Act → World → Prop),
      (∀ v w' β', SV.rep E β' r.1.v v → Pl.le β β' → (∀ i, i < m.nxt ∨ m.nxt + 1 ≤ i → β' i = β i) → Owns E β' w0.heap.size (r.1.nb ++ dropB mem j) w' → Below w0.heap.size w0 w' → K (a.put o.dst v) w') → o.wp P a w K Q) := by
  have hop := isApp_eq ho
  unfold appD at h
  split at h
  · rename_i e ht
    split at h
    · rename_i i hi
      split at h
      · rename_i z hz
        split at h
        · rename_i n cs hzs hpos hcells hlt
          have hzs' : z.cells.size = i.size := Nat.eq_of_beq_eq_true hzs
          have hpos' : 0 < i.size := by simpa [Nat.blt_eq] using hpos
          have hlt' : m.nxt < m.lim := by simpa [Nat.blt_eq] using hlt
          obtain ⟨ad, c, news, hxv, hnl, hnr, hn1, hnc⟩ := sliceCells_run P hcells hreads (hev x)
          have hsv := hev s
          have hexec : ∀ v w', (Builtin.append_ #[t, t] o.type #[a.eval s, a.eval x]).run P w = .ok v w' → (execOp a.eval o).run P w = .ok (.value v) w' := by
            intro v w' hr
            simp only [execOp, hop, resolve, invoke, builtin, Sem.run_bind, Sem.run_pure, Result.andThen_ok, List.map_toArray, List.map_cons, List.map_nil, hr]
          split at h
          · rename_i j k hse
            rw [hse] at hsv
            simp only [SV.rep] at hsv
            obtain ⟨b, hbj, hb0, hsv', _⟩ := hsv
            split at h
            · rename_i sb hsb
              split at h
              · rename_i e' sz' k' hrow
                split at h
                · rename_i he hsz' hk' hb hz0
                  have hz0' : k + n ≠ 0 := fun e => by rw [e] at hz0; cases hz0
                  simp only [Out.sel, Option.some.injEq] at h
                  subst h
                  refine ⟨j, sb, rfl, hsb, rfl, rfl, hlt', fun hmem K Q hK => ?_⟩
                  have he2 : e = e' := Nat.eq_of_beq_eq_true he
                  have hs2 : i.size = sz' := Nat.eq_of_beq_eq_true hsz'
                  have hk2 : k = k' := Nat.eq_of_beq_eq_true hk'
                  subst he2; subst hs2; subst hk2
                  obtain ⟨b2, hb2, hreads2, hB, h0, arr, e2, hheap, hrw⟩ := hown.ent j sb hmem
                  rw [hbj] at hb2; cases hb2
                  rw [hrow] at hrw
                  simp only at hrw
                  obtain ⟨rfl, hasz, hkc, hcm, hlen⟩ := hrw
                  obtain ⟨w', g', cap', cur', hr, hh, hnc', hcm', hsz2, htake, hg', hgr⟩ := append_gs (P := P) (ty := o.type) ht hi hz hzs' hpos' hheap hkc hcm hasz (c := c) hnl hnc hn1 (ble_room hb).1 (ble_room hb).2
                  unfold Oper.wp
                  rw [hexec _ _ (by rw [hsv', hxv]; exact hr)]
                  have hcell : ∀ i v, w.cell? ⟨b.blk, b.off + i, none⟩ = some v → arr[i]? = some v := by
                    intro i v hv
                    simpa [World.cell?, hheap, h0] using hv
                  have harr : SV.reps E β sb.cs (arr.toList.take (k * i.size)) := reps_iff.2 ⟨by
                      rw [List.length_take, Array.length_toList, hasz, hlen]
                      exact Nat.min_eq_left (Nat.mul_le_mul_right _ hkc), fun q s hq => by
                    obtain ⟨v, hv, _, hrep⟩ := hreads2.2 q s hq
                    have hq' := (List.getElem?_eq_some_iff.1 hq).1
                    exact ⟨v, by rw [List.getElem?_take, if_pos (by omega), Array.getElem?_toList]; exact hcell _ _ hv, hrep⟩⟩
                  have hone : ∀ v ∈ arr.toList.take (k * i.size), v.oneCell' = true := by
                    intro v hv
                    obtain ⟨q, hq, rfl⟩ := List.getElem_of_mem hv
                    have hq3 : q < arr.toList.length := Nat.lt_of_lt_of_le hq (List.length_take_le' _ _)
                    have hq2 : q < sb.cs.length := by simp at hq; omega
                    obtain ⟨v', hv', h1', _⟩ := hreads2.2 q _ (List.getElem?_eq_getElem hq2)
                    have := hcell _ _ hv'
                    rw [← Array.getElem?_toList] at this
                    have e2 : (arr.toList.take (k * i.size))[q] = v' := by
                      rw [List.getElem_take]
                      rw [List.getElem?_eq_getElem hq3] at this
                      exact Option.some.inj this
                    rw [e2]; exact h1'
                  have hlen2 : (arr.toList.take (k * i.size) ++ news).length = (k + n) * i.size := by
                    rw [List.length_append, hnl, reps_length harr, hlen, Nat.add_mul]
                  have hfake : RepS E β w0 ⟨List.replicate a.tmps.toList.length .un, mem, [], 0, m.nxt, m.lim, 0, [], false, []⟩ a w :=
                    { tm := uns_reps _, df := hdf, own := hown, fresh := hf, le := Nat.le_of_lt hlt', below := hbel, ro := fun _ _ h => (by cases h), pc := fun _ h => (by cases h) }
                  have hgrown := hfake.grown (row := some b.blk) (own := dropB mem j) hgr (fun q hq => by cases hq; exact hB) hlt' (reps_append harr hnr) (fun u hu => by
                    rcases List.mem_append.1 hu with hu | hu
                    · exact hone u hu
                    · exact hn1 u hu) hh hnc' hcm' hsz2 (by rw [hlen2]; exact htake) hlen2 (by
                      rcases hg' with rfl | rfl
                      · exact hB
                      · exact hbel.size) hz0' (fun _ hx => (dropB_mem hx).2) (fun q sb2 b2 hq hb2 => by
                      obtain ⟨hqj, hq'⟩ := dropB_mem hq
                      have hap := hown.apart q sb2 j sb b2 b hq' hmem hqj hb2 hbj
                      obtain ⟨b3, hb3, hr3, _⟩ := hown.ent q sb2 hq'
                      rw [hb2] at hb3; cases hb3
                      refine ⟨fun e => hap (Option.some.inj e), ?_⟩
                      rcases hg' with rfl | rfl
                      · exact hap
                      · have := hr3.1; omega) none
                  refine hK _ w' (upd β m.nxt ⟨g', 0, cap', []⟩) (by simp only [SV.rep]; exact ⟨⟨g', 0, cap', []⟩, by simp [upd], rfl, rfl, rfl⟩) (upd_le hf hlt' _) (fun q hq => ?_) hgrown.own hgrown.below
                  simp only [upd]
                  rw [if_neg (by omega)]
                · cases h
              · cases h
            · cases h
          · rename_i j ks k c0 hse
            rw [hse] at hsv
            simp only [SV.rep] at hsv
            obtain ⟨b, l, hbj, hsv', hlc, hcml, hln, hval, hrows⟩ := hsv
            split at h
            · rename_i sb hsb
              split at h
              · rename_i e' sz' u hrow hcu
                split at h
                · rename_i he hsz' hn1' hroom hks
                  simp only [Out.sel, Option.some.injEq] at h
                  subst h
                  refine ⟨j, sb, rfl, hsb, rfl, rfl, hlt', fun hmem K Q hK => ?_⟩
                  have he2 : e = e' := Nat.eq_of_beq_eq_true he
                  have hs2 : i.size = sz' := Nat.eq_of_beq_eq_true hsz'
                  have hn1'' : n = 1 := Nat.eq_of_beq_eq_true hn1'
                  subst he2; subst hs2; subst hn1''
                  obtain ⟨b2, hb2, hreads2, hB, h0, arr, e2, hheap, hrw⟩ := hown.ent j sb hmem
                  rw [hbj] at hb2; cases hb2
                  have hks' : i.size = ks.length := Nat.eq_of_beq_eq_true hks
                  rw [h0] at hsv'
                  rw [hrow] at hrw
                  simp only at hrw
                  obtain ⟨rfl, hasz, _, hcm, _⟩ := hrw
                  obtain ⟨r1, r2, r3⟩ := roomT_ok hp hroom hln
                  obtain ⟨w', g', cap', cur', hr, hh, hnc', hcm', hsz2, htake, hg', hgr⟩ := append_gs (P := P) (ty := o.type) ht hi hz (by assumption) hpos' hheap hlc hcm hasz (c := c) hnl hnc hn1 r1 r2
                  unfold Oper.wp
                  rw [hexec _ _ (by rw [hsv', hxv]; exact hr)]
                  have hat : upd β m.nxt ⟨g', 0, cap', ((Tm.op .snoc c0 u).den E).list⟩ m.nxt = some ⟨g', 0, cap', ((Tm.op .snoc c0 u).den E).list⟩ := by simp [upd]
                  obtain ⟨q1, q2, q3⟩ := open_grown (w := w) (n := k) (t := c0) (hreads2.gen.imp id fun x => x.2) h0 hheap hrows hks' hpos' hcu hnr hn1 hnl hh hsz2 hcm' hnc' htake (by rw [hasz]; exact Nat.mul_le_mul_right _ hlc) hval hln r3 hat
                  have hfake : RepS E β w0 ⟨List.replicate a.tmps.toList.length .un, mem, [], 0, m.nxt, m.lim, 0, [], false, []⟩ a w :=
                    { tm := uns_reps _, df := hdf, own := hown, fresh := hf, le := Nat.le_of_lt hlt', below := hbel, ro := fun _ _ h => (by cases h), pc := fun _ h => (by cases h) }
                  have hgrown := hfake.grownB (row := some b.blk) (own := dropB mem j) hgr (fun q hq => by cases hq; exact hB) hlt' (by
                    rcases hg' with rfl | rfl
                    · exact hB
                    · exact hbel.size) q1 q2 q3 (fun _ hx => (dropB_mem hx).2) (fun q sb2 b2 hq hb2 => by
                      obtain ⟨hqj, hq'⟩ := dropB_mem hq
                      have hap := hown.apart q sb2 j sb b2 b hq' hmem hqj hb2 hbj
                      obtain ⟨b3, hb3, hr3, _⟩ := hown.ent q sb2 hq'
                      rw [hb2] at hb3; cases hb3
                      refine ⟨fun e => hap (Option.some.inj e), ?_⟩
                      rcases hg' with rfl | rfl
                      · exact hap
                      · have := hr3.1; show b2.blk ≠ w.heap.size; omega) none
                  refine hK _ w' _ q3 (upd_le hf hlt' _) (fun q hq => ?_) hgrown.own hgrown.below
                  simp only [upd]
                  rw [if_neg (by omega)]
                · cases h
              · cases h
            · cases h
          · cases h
        · cases h
      · cases h
    · cases h
  · cases h
end
end Go.Sx
