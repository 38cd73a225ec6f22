/- Long slices of pigments: the contracts, for the executor. No condition. -/
import Derived.Test.YtamljpeicecbjaaBigC
noncomputable section
namespace Go.Proofs.Ytamljpeicecbjaa.Leaf
open Go.RowKit Go.Sx
set_option linter.unusedVariables false
set_option linter.unusedSimpArgs false
set_option maxRecDepth 100000
/-- What szPigmentS answers, from the slice's length, its cells and what is left. -/
def szSc (c : Sc) : Sc := .i (szF (fun k => (cellSc (c.at_ 1).list k 0).toS.length) (c.at_ 0).toI.toNat 0 (wrap64 ((c.at_ 2).toI - (c.at_ 0).toI)))
def lim64 (n : Tm) : Tm := .op .lei n (.il 9223372036854775807)
def lim20 (n : Tm) : Tm := .op .lei n (.il 1048576)
def over (n : Tm) : Tm := .op .lti (.op (.subi .i64) (.il 1048576) n) (.il 0)
def szC : Sum := fun args m pc => match args with
  | [.os j n t, .sc (.int .i64) (.il (.ofNat L))] => match decB pc (rowsT pgs n t), decB pc (lim64 n), find m.mem j, Nat.ble L 1048576 with
    | some true, some true, some _, true =>
      .br (.op .lti (.op (.subi .i64) (.il (.ofNat L)) n) (.il 0)) (val m pc (.sc (.int .i64) (.il (-1)))) (val m ((lim20 n, true) :: pc) (.sc (.int .i64) (.app 1 (.cons n (.cons t (.cons (.il (.ofNat L)) .nil))))))
    | _, _, _, _ => .bad 330
  | _ => .bad 331
def toC : Sum := fun args m pc => match args with
  | [.os j n t] => match decB pc (rowsT pgs n t), decB pc (lim64 n), decB pc (over n), find m.mem j, Nat.blt m.nxt m.lim with
    | some true, some true, some false, some _, true => .ret ⟨.os m.nxt n t, [(m.nxt, ⟨[], none⟩)], m.nxt + 1, pc⟩
    | _, _, _, _, _ => .bad 332
  | _ => .bad 333
def eqC : Sum := fun args m pc => match args with
  | [.os j n t, .os j' n' t'] => match n.beq n', t.beq t', decB pc (rowsT pgs n t), decB pc (lim64 n), find m.mem j, find m.mem j' with
    | true, true, some true, some true, some _, some _ => val m pc (.sc .bool (.bl true))
    | _, _, _, _, _, _ => .bad 334
  | _ => .bad 335
section
variable {E : Env}
theorem rowsT_ok {pc : PC} (hF : ∀ c, E.fn 900 c = F900 c) (hp : PcOk E pc) {n t : Tm} (h : decB pc (rowsT pgs n t) = some true) : RowsOk kSc (n.den E).toI (t.den E).list := by
  have h1 := decB_ok hp _ h
  simp only [rowsT, Tm.den, hF, F900, Sc.toB_b] at h1
  have h2 := @of_decide_eq_true _ (Classical.propDecidable _) h1
  simp only [Sc.at_zero, Sc.at_succ] at h2
  rw [ksT_den] at h2
  exact h2.1
theorem rowsT_str {pc : PC} (hF : ∀ c, E.fn 900 c = F900 c) (hp : PcOk E pc) {n t : Tm} (h : decB pc (rowsT pgs n t) = some true) : StrOk (t.den E).list := by
  have h1 := decB_ok hp _ h
  simp only [rowsT, Tm.den, hF, F900, Sc.toB_b] at h1
  have h2 := @of_decide_eq_true _ (Classical.propDecidable _) h1
  simp only [Sc.at_zero, Sc.at_succ] at h2
  exact h2.2
/-- A long slice, its rows as they lie in memory. -/
theorem os_rows {pc : PC} {β : Pl} {w : World} {mem : Mem} {j : Nat} {n t : Tm} {sb : SB} {v : Value} (hF : ∀ c, E.fn 900 c = F900 c) (hp : PcOk E pc) (hm : Reads E β mem w) (h : decB pc (rowsT pgs n t) = some true) (hf : find mem j = some sb) (hv : SV.rep E β (.os j n t) v) :
    ∃ b l c, β j = some b ∧ v = .slice (some ⟨b.blk, b.off, none⟩) l c ∧ l ≤ c ∧ (l : Int) = (n.den E).toI ∧ b.val = (t.den E).list ∧ b.blk < w.heap.size ∧
      ∀ k, k < l → Good b.val k (rowOf w b.blk b.off k) ∧ ∀ (q : Nat) (u : Value), (rowOf w b.blk b.off k)[q]? = some u → w.cell? ⟨b.blk, b.off + k * 34 + q, none⟩ = some u := by
  simp only [SV.rep] at hv
  obtain ⟨b, l, c, hb, hv, hlc, hln, hval⟩ := hv
  obtain ⟨b', hb', hreads⟩ := hm j sb (find_mem hf)
  rw [hb] at hb'; cases hb'
  have hrows := rowsT_ok hF hp h
  rw [← hln, ← hval] at hrows
  refine ⟨b, l, c, hb, hv, hlc, hln, hval, hreads.1, fun k hk => ?_⟩
  rcases hreads.3 with he | ⟨_, hg⟩
  · exfalso
    have := hrows.1
    rw [he] at this
    have e : kSc.length = 34 := rfl
    rw [e] at this
    simp at this
    omega
  · exact rows_of hg hrows hk
theorem a25 : aggT Try.prog 25 = some true := by kernel_rfl
theorem a30 : aggT Try.prog 30 = some true := by kernel_rfl
theorem s25 : szT Try.prog 25 = some 34 := by kernel_rfl
theorem szC_ok (hF : ∀ c, E.fn 900 c = F900 c) (h1 : ∀ c, E.fn 1 c = szSc c) : SumOk Try.prog E 124 szC := by
  intro args m pc r hr β w vals hreps hm hfr hl hp
  unfold szC at hr
  split at hr
  · rename_i j n t L
    split at hr
    · rename_i sb hd1 hd2 hf hL
      simp only [SV.reps] at hreps
      obtain ⟨v1, rest, rfl, hv1, v2, rest2, rfl, hv2, rfl⟩ := hreps
      obtain ⟨b, l, c, hb, rfl, hlc, hln, hval, hblt, hrow⟩ := os_rows hF hp hm hd1 hf hv1
      simp only [SV.rep, SK.rep, Tm.den, Sc.toI_i] at hv2
      subst hv2
      have hl64 : l ≤ 9223372036854775807 := by
        have : (n.den E).toI ≤ 9223372036854775807 := of_decide_eq_true (decB_ok hp _ hd2)
        omega
      have hL' : L ≤ 1048576 := Nat.le_of_ble_eq_true hL
      have hwrap : wrap64 ((Int.ofNat L) - l) = (L : Int) - l := by
        unfold wrap64
        simp only [Int.ofNat_eq_natCast]
        omega
      have hcond : ((Tm.op .lti (.op (.subi .i64) (.il (.ofNat L)) n) (.il 0)).den E).toB = decide ((L : Int) - l < 0) := by
        simp only [Tm.den, Opc.den, Sc.toB_b, Sc.toI_i, ← hln]
        rw [wrapEq, hwrap]
      have walk : ∀ res : Int, ((L : Int) - l < 0 → res = -1) → (0 ≤ (L : Int) - l → szF (fun k => (cellSc b.val k 0).toS.length) l 0 ((L : Int) - l) = res) →
          Calls Try.prog 124 #[.slice (some ⟨b.blk, b.off, none⟩) l c, .int .i64 (Int.ofNat L)] w fun e w' => e = .returned (.int .i64 res) ∧ Below w.heap.size w w' := fun res g1 g2 =>
        sz_walk b.blk b.off l c (rowOf w b.blk b.off) (fun k => (cellSc b.val k 0).toS.length) (Int.ofNat L) res w hlc hl64 hblt
          (fun k w' hk hbel => load_row a25 s25 (hrow k hk).1.1 hblt hbel (hrow k hk).2)
          (fun k x w' hk => sz1 (hrow k hk).1 x w') (by rw [hwrap]; exact g1) (by rw [hwrap]; exact g2)
      simp only [Out.sel, hcond] at hr
      by_cases hneg : (L : Int) - l < 0
      · rw [decide_eq_true hneg, if_pos rfl] at hr
        simp only [val, Out.sel, Option.some.injEq] at hr
        subst hr
        refine ⟨hp, hl, ⟨_, Try.func124, by kernel_rfl⟩, (walk (-1) (fun _ => rfl) (fun h => by omega)).mono fun e w' ⟨he, hbel⟩ => ⟨_, β, he, ?_, Step.same _ hbel⟩⟩
        simp only [SV.rep, SK.rep, Tm.den, Sc.toI_i]
      · rw [decide_eq_false hneg, if_neg (by decide)] at hr
        simp only [val, Out.sel, Option.some.injEq] at hr
        subst hr
        refine ⟨hp.cons ?_, hl, ⟨_, Try.func124, by kernel_rfl⟩, (walk _ (fun h => absurd h hneg) (fun _ => rfl)).mono fun e w' ⟨he, hbel⟩ => ⟨_, β, he, ?_, Step.same _ hbel⟩⟩
        · have : (n.den E).toI ≤ 1048576 := by omega
          exact decide_eq_true this
        · simp only [SV.rep, SK.rep, Tm.den, h1, szSc, Sc.toI_i, Sc.at_zero, Sc.at_succ, ← hln, ← hval, Int.toNat_natCast]
          rw [hwrap]
    · cases hr
  · cases hr
theorem szC_pc (args : List SV) (m : Mm) (pc : PC) (hp : PcOk E pc) : Pcs E Res.pc (szC args m pc) := by
  intro r hr
  unfold szC at hr
  split at hr
  · rename_i j n t L
    split at hr
    · rename_i sb hd1 hd2 hf hL
      have hL' : L ≤ 1048576 := Nat.le_of_ble_eq_true hL
      have hn : (n.den E).toI ≤ 9223372036854775807 := of_decide_eq_true (decB_ok hp _ hd2)
      simp only [Out.sel] at hr
      split at hr
      · simp only [val, Out.sel, Option.some.injEq] at hr
        subst hr
        exact hp
      · rename_i hc
        simp only [val, Out.sel, Option.some.injEq] at hr
        subst hr
        refine hp.cons ?_
        have hc' : ¬ IntKind.i64.wrap ((Int.ofNat L) - (n.den E).toI) < 0 := fun h => hc (decide_eq_true h)
        rw [wrapEq] at hc'
        unfold wrap64 at hc'
        simp only [Int.ofNat_eq_natCast] at hc'
        have : (n.den E).toI ≤ 1048576 := by omega
        exact decide_eq_true this
    · cases hr
  · cases hr
theorem toC_ok (hF : ∀ c, E.fn 900 c = F900 c) : SumOk Try.prog E 126 toC := by
  intro args m pc r hr β w vals hreps hm hfr hl hp
  unfold toC at hr
  split at hr
  · rename_i j n t
    split at hr
    · rename_i sb hd1 hd2 hd3 hf hL
      simp only [SV.reps] at hreps
      obtain ⟨v1, rest, rfl, hv1, rfl⟩ := hreps
      obtain ⟨b, l, c, hb, rfl, hlc, hln, hval, hblt, hrow⟩ := os_rows hF hp hm hd1 hf hv1
      simp only [Out.sel, Option.some.injEq] at hr
      subst hr
      have hlt : m.nxt < m.lim := by simp only [Nat.blt] at hL; exact Nat.le_of_ble_eq_true hL
      have hl20 : l ≤ 1048576 := by
        have h2 : (n.den E).toI ≤ 9223372036854775807 := of_decide_eq_true (decB_ok hp _ hd2)
        have h3 : ¬ IntKind.i64.wrap (1048576 - (n.den E).toI) < 0 := of_decide_eq_false (decB_ok hp _ hd3)
        rw [wrapEq] at h3
        unfold wrap64 at h3
        omega
      have hlen : b.val.length = l * 34 := by
        have h1 := (rowsT_ok hF hp hd1).1
        rw [← hln, ← hval] at h1
        have e : kSc.length = 34 := rfl
        rw [e] at h1
        omega
      refine ⟨hp, hlt, ⟨_, Try.func126, by kernel_rfl⟩, (to_walk b.blk b.off l c (rowOf w b.blk b.off) (Good b.val) good_fits w hlc hl20 hblt
        (fun k w' hk hbel => load_row a25 s25 (hrow k hk).1.1 hblt hbel (hrow k hk).2) (fun k w' hk => to1 (hrow k hk).1 w')).mono fun e w' ⟨arr, he, hh, hs, hcp, hbel⟩ => ?_⟩
      have hgen : GenOk ⟨w.heap.size, 0, l, b.val⟩ w' := by
        intro i x hx
        have hi := (List.getElem?_eq_some_iff.1 hx).1
        simp only at hi
        have hk : i / 34 < l := by omega
        obtain ⟨cs, hg, hc⟩ := hcp (i / 34) hk
        have hq : i % 34 < 34 := Nat.mod_lt _ (by decide)
        have hcs : cs[i % 34]? = some (cs[i % 34]'(by rw [hg.1]; exact hq)) := Array.getElem?_eq_getElem _
        have hp34 : pgs[i % 34]? = some (pgs[i % 34]'(by rw [pgs_len]; exact hq)) := List.getElem?_eq_getElem _
        have hrep := hg.2 (i % 34) _ _ hp34 hcs
        have hcell := hc _ _ hcs
        rw [show i / 34 * 34 + i % 34 = i by omega] at hcell
        refine ⟨_, by simp only [World.cell?, hh, Nat.zero_add]; exact hcell, rep_one hrep, _, _, ?_, hrep⟩
        have hrows := rowsT_ok hF hp hd1
        rw [← hln, ← hval] at hrows
        obtain ⟨c', hx'⟩ := hrows.2 i x hx
        have e : kSc.length = 34 := rfl
        rw [e] at hx'
        have h6 : kSc.getD (i % 34) .nil = .i (pgs[i % 34]'(by rw [pgs_len]; exact hq)).n := by
          simp only [kSc, List.getD, List.getElem?_map, hp34, Option.map_some, Option.getD_some]
        rw [h6] at hx'
        rw [hx']
        have : cellSc b.val (i / 34) (i % 34) = c' := by
          simp only [cellSc]
          rw [show i / 34 * 34 + i % 34 = i by omega]
          simp only [List.getD, hx, Option.getD_some]
          rw [hx']; rfl
        rw [this]
      have hat : upd β m.nxt ⟨w.heap.size, 0, l, b.val⟩ m.nxt = some ⟨w.heap.size, 0, l, b.val⟩ := by simp [upd]
      have hlt' : w.heap.size < w'.heap.size := (Array.getElem?_eq_some_iff.1 hh).1
      refine ⟨_, upd β m.nxt ⟨w.heap.size, 0, l, b.val⟩, he, ?_, ⟨hbel, upd_le hfr hlt _, fun i hi => ?_, Nat.le_succ _, fun i sb' hi => ?_, fun i sb1 i' sb2 b1 b2 h1 h2 hne _ _ => ?_⟩⟩
      · simp only [SV.rep]
        exact ⟨_, l, l, hat, rfl, Nat.le_refl _, hln, hval⟩
      · simp only at hi
        simp only [upd]
        rw [if_neg (by omega)]
      · rcases List.mem_cons.1 hi with hi | hi
        · cases hi
          exact ⟨_, hat, ⟨hlt', fun q s hq => by simp at hq, .inr ⟨rfl, hgen⟩, fun _ _ h => by cases h⟩, Nat.le_refl _, rfl, arr, 30, hh, trivial⟩
        · cases hi
      · rcases List.mem_cons.1 h1 with h1 | h1
        · rcases List.mem_cons.1 h2 with h2 | h2
          · cases h1; cases h2; exact absurd rfl hne
          · cases h2
        · cases h1
    · cases hr
  · cases hr
theorem eqC_ok (hF : ∀ c, E.fn 900 c = F900 c) : SumOk Try.prog E 130 eqC := by
  intro args m pc r hr β w vals hreps hm hfr hl hp
  unfold eqC at hr
  split at hr
  · rename_i j n t j' n' t'
    split at hr
    · rename_i sb sb' hn ht hd1 hd2 hf hf'
      have en := Tm.beq_eq hn
      have et := Tm.beq_eq ht
      subst en; subst et
      simp only [SV.reps] at hreps
      obtain ⟨v1, rest, rfl, hv1, v2, rest2, rfl, hv2, rfl⟩ := hreps
      obtain ⟨b, l, c, hb, rfl, hlc, hln, hval, hblt, hrow⟩ := os_rows hF hp hm hd1 hf hv1
      obtain ⟨b', l', c', hb', rfl, hlc', hln', hval', hblt', hrow'⟩ := os_rows hF hp hm hd1 hf' hv2
      have hll : l' = l := by omega
      subst hll
      have hl64 : l' ≤ 9223372036854775807 := by
        have : (n.den E).toI ≤ 9223372036854775807 := of_decide_eq_true (decB_ok hp _ hd2)
        omega
      simp only [val, Out.sel, Option.some.injEq] at hr
      subst hr
      have hvv : b'.val = b.val := by rw [hval, hval']
      refine ⟨hp, hl, ⟨_, Try.func130, by kernel_rfl⟩, (eq_walk b.blk b.off c b'.blk b'.off c' l' (rowOf w b.blk b.off) (rowOf w b'.blk b'.off) w hlc hlc' hl64
        (fun k w' hk hbel => load_row a30 sz30 (hrow k hk).1.1 hblt hbel (hrow k hk).2) (fun k w' hk hbel => load_row a30 sz30 (hrow' k hk).1.1 hblt' hbel (hrow' k hk).2)
        (fun k w' hk => eq1 (hrow k hk).1 (hvv ▸ (hrow' k hk).1) w')).mono fun e w' ⟨he, hbel⟩ => ⟨_, β, he, ?_, Step.same _ hbel⟩⟩
      simp only [SV.rep, SK.rep, Tm.den, Sc.toB_b]
    · cases hr
  · cases hr
theorem toC_pc (args : List SV) (m : Mm) (pc : PC) (hp : PcOk E pc) : Pcs E Res.pc (toC args m pc) := by
  unfold toC
  repeat' split
  all_goals first | exact .ret hp | exact .bad
theorem eqC_pc (args : List SV) (m : Mm) (pc : PC) (hp : PcOk E pc) : Pcs E Res.pc (eqC args m pc) := by
  unfold eqC
  repeat' split
  all_goals first | exact .val hp | exact .bad
end
end Go.Proofs.Ytamljpeicecbjaa.Leaf
