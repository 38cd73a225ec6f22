/- Long slices of pigments: what the laws' own functions do with them. No condition. -/
import Derived.Test.YtfdpcmijifdfeaaGreatCx
import Derived.Test.YtfdpcmijifdfeaaGreatSxPat
import Derived.WalkKit
import Derived.LoopTactic
import Derived.StillTailTactics
namespace Go.Proofs.YtfdpcmijifdfeaaGreat.Leaf
open Go.RowKit
set_option linter.unusedVariables false
set_option linter.unusedSimpArgs false
set_option maxRecDepth 100000
theorem wpList_load {P : Program} (w : World) {ops : Array Oper} {rest : List Oper} {o : Oper} {a : Act} {Q : Exit → Act → World → Prop}
    (hg : o.guard = none) (x : Operand) (t : TypeId) (hop : o.op = Op.load t x) (ad : Addr) (hx : a.eval x = .pointer (some ad)) (v : Value) (hv : (loadVar t ad).run P w = .ok v w)
    (hK : wpList P ops Q rest (a.put o.dst v) w) : wpList P ops Q (o :: rest) a w := by
  refine wpList_plain hg fun K hK' => ?_
  unfold Oper.wp
  simp [execOp, hop, hx, Instr.loadAt, Instr.sureAddr, hv, Result.andThen]
  exact hK' _ _ hK
def sz1F (n : Nat) (x : Int) : Int := if wrap64 (x - n) < 0 then -1 else wrap64 (x - n)
def szF (nm : Nat → Nat) : Nat → Nat → Int → Int
  | 0, _, x => x
  | m + 1, i, x => if sz1F (nm i) x < 0 then -1 else szF nm m (i + 1) (sz1F (nm i) x)
theorem szF_neg {nm : Nat → Nat} {len k : Nat} {x : Int} (hk : k < len) (h : sz1F (nm k) x < 0) : szF nm (len - k) k x = -1 := by
  rw [show len - k = (len - (k + 1)) + 1 by omega]
  simp only [szF]
  rw [if_pos h]
theorem szF_pos {nm : Nat → Nat} {len k : Nat} {x : Int} (hk : k < len) (h : 0 ≤ sz1F (nm k) x) : szF nm (len - k) k x = szF nm (len - (k + 1)) (k + 1) (sz1F (nm k) x) := by
  rw [show len - k = (len - (k + 1)) + 1 by omega]
  simp only [szF]
  rw [if_neg (by omega)]
theorem sz_walk (b off len cap : Nat) (R : Nat → Array Value) (nm : Nat → Nat) (left res : Int) (w : World) (hlen : len ≤ cap) (hm : len ≤ 9223372036854775807) (hb : b < w.heap.size)
    (hload : ∀ k w', k < len → Below w.heap.size w w' → (loadVar 94 ⟨b, off + k * 34, none⟩).run Tryz.prog w' = .ok (.agg (R k)) w')
    (h1 : ∀ k x w', k < len → Calls Tryz.prog 50 #[.agg (R k), .int .i64 x] w' fun e w'' => e = .returned (.int .i64 (sz1F (nm k) x)) ∧ Below w'.heap.size w' w'')
    (hneg : wrap64 (left - len) < 0 → res = -1) (hpos : 0 ≤ wrap64 (left - len) → szF nm len 0 (wrap64 (left - len)) = res) :
    Calls Tryz.prog 24 #[.slice (some ⟨b, off, none⟩) len cap, .int .i64 left] w fun e w' => e = .returned (.int .i64 res) ∧ Below w.heap.size w w' := by
  have G1 : Hid (∀ k x w', k < len → Calls Tryz.prog 50 #[.agg (R k), .int .i64 x] w' fun e w'' => e = .returned (.int .i64 (sz1F (nm k) x)) ∧ Below w'.heap.size w' w'') := h1
  have G2 : Hid (∀ k w', k < len → Below w.heap.size w w' → (loadVar 94 ⟨b, off + k * 34, none⟩).run Tryz.prog w' = .ok (.agg (R k)) w') := hload
  clear h1 hload
  go_enter Tryz.func24, Tryz.ntmps24
  go_wp2
  · go_ret
    exact ⟨by rw [hneg (by assumption)]; rfl, Below.refl _ _⟩
  · have hp := hpos (by assumption)
    go_loopw [1, 5] (fun l i wr => ∃ (k : Nat) (x : Int), k ≤ len ∧ i = .int .i64 k ∧ l = .int .i64 x ∧ szF nm (len - k) k x = res ∧ Below w.heap.size w wr) (fun _ i _ => len - (intOf i).toNat)
    case atStart => exact ⟨0, _, Nat.zero_le _, rfl, rfl, hp, Below.refl _ _⟩
    case round =>
      obtain ⟨k, x, hk, rfl, rfl, hs, hbel⟩ := hrel
      have HS : Hid (szF nm (len - k) k x = res) := hs
      have HP : Hid (szF nm len 0 (wrap64 (left - len)) = res) := hp
      clear hs hp
      go_wp2_with (first | (refine wpList_load _ rfl _ 94 rfl ⟨b, off + k * 34, none⟩ rfl (.agg (R k)) (G2.out k _ (by assumption) hbel) ?_) | (go_at_call 50; refine (G1.out k x _ (by assumption)).mono ?_; rintro e w' ⟨rfl, hb'⟩) | go_in)
      · go_ret
        refine ⟨?_, hbel.trans (hb'.mono hbel.size)⟩
        have h1 := HS.out
        rw [szF_neg (by assumption) (by assumption)] at h1
        rw [← h1]; rfl
      · go_roundw
        case rel =>
          refine ⟨k + 1, _, by omega, by go_num, rfl, ?_, hbel.trans (hb'.mono hbel.size)⟩
          rw [← szF_pos (by assumption) (by assumption)]
          exact HS.out
        case measure => simp [intOf]; omega
      · go_ret
        refine ⟨?_, hbel⟩
        have h1 := HS.out
        rw [show len - k = 0 by omega] at h1
        simp only [szF] at h1
        rw [← h1]; rfl

theorem wpStill_load {P : Program} {ops : Array Oper} {w : World} {rest : List Oper} {o : Oper} {a : Act} {Q : Act → Prop}
    (hg : o.guard = none) (x : Operand) (t : TypeId) (hop : o.op = Op.load t x) (ad : Addr) (hx : a.eval x = .pointer (some ad)) (v : Value) (hv : (loadVar t ad).run P w = .ok v w)
    (hK : wpStill P ops w Q rest (a.put o.dst v)) : wpStill P ops w Q (o :: rest) a := by
  refine wpStill_step fun K hK' => ?_
  have hw : Region.wanted o (yielded ops a.tmps) = true := by simp [Region.wanted, hg]
  rw [if_pos hw]
  unfold Oper.still
  simp [execOp, hop, hx, Instr.loadAt, Instr.sureAddr, hv, Oper.stillUpon]
  exact hK' _ hK
theorem eq_walk (b off cap b2 off2 cap2 len : Nat) (R R2 : Nat → Array Value) (w : World) (hlen : len ≤ cap) (hlen2 : len ≤ cap2) (hm : len ≤ 9223372036854775807)
    (hload : ∀ k w', k < len → Below w.heap.size w w' → (loadVar 84 ⟨b, off + k * 34, none⟩).run Tryz.prog w' = .ok (.agg (R k)) w')
    (hload2 : ∀ k w', k < len → Below w.heap.size w w' → (loadVar 84 ⟨b2, off2 + k * 34, none⟩).run Tryz.prog w' = .ok (.agg (R2 k)) w')
    (h1 : ∀ k w', k < len → Calls Tryz.prog 59 #[.agg (R k), .agg (R2 k)] w' fun e w'' => e = .returned (.bool true) ∧ Below w'.heap.size w' w'') :
    Calls Tryz.prog 36 #[.slice (some ⟨b, off, none⟩) len cap, .slice (some ⟨b2, off2, none⟩) len cap2] w fun e w' => e = .returned (.bool true) ∧ Below w.heap.size w w' := by
  have G1 : Hid (∀ k w', k < len → Calls Tryz.prog 59 #[.agg (R k), .agg (R2 k)] w' fun e w'' => e = .returned (.bool true) ∧ Below w'.heap.size w' w'') := h1
  have G2 : Hid (∀ k w', k < len → Below w.heap.size w w' → (loadVar 84 ⟨b, off + k * 34, none⟩).run Tryz.prog w' = .ok (.agg (R k)) w') := hload
  have G3 : Hid (∀ k w', k < len → Below w.heap.size w w' → (loadVar 84 ⟨b2, off2 + k * 34, none⟩).run Tryz.prog w' = .ok (.agg (R2 k)) w') := hload2
  clear h1 hload hload2
  go_enter Tryz.func36, Tryz.ntmps36
  go_wp2
  go_loopw [5] (fun i wr => ∃ (k : Nat), k ≤ len ∧ i = .int .i64 k ∧ Below w.heap.size w wr) (fun i _ => len - (intOf i).toNat)
  case atStart => exact ⟨0, Nat.zero_le _, rfl, Below.refl _ _⟩
  case round =>
    obtain ⟨k, hk, rfl, hbel⟩ := hrel
    go_wp2
    · have hk' : k < len := by assumption
      refine wp_region_still_tail 8 mixed (by kernel_rfl) ?_
      simp only [List.take_succ_cons, List.take_zero, List.drop_succ_cons, List.drop_zero]
      generalize hwd : ({ wr with drawn := wr.drawn + 1 } : World) = wd
      have hbd : Below w.heap.size w wd := by rw [← hwd]; exact hbel.drew
      still_step
      still_step
      still_step
      refine wpStill_load rfl _ 84 rfl ⟨b, off + k * 34, none⟩ rfl (.agg (R k)) (G2.out k _ hk' hbd) ?_
      still_step
      still_step
      still_step
      refine wpStill_load rfl _ 84 rfl ⟨b2, off2 + k * 34, none⟩ rfl (.agg (R2 k)) (G3.out k _ hk' hbd) ?_
      refine wpStill_nil ?_
      clear hwd
      go_wp2_with (first | (go_at_call 59; refine (G1.out k _ hk').mono ?_; rintro e w' ⟨rfl, hb'⟩) | go_in)
      go_roundw
      case rel => exact ⟨k + 1, by omega, by go_num, hbd.trans (hb'.mono hbd.size)⟩
      case measure => simp [intOf]; omega
    · go_ret
      exact ⟨rfl, hbel⟩
