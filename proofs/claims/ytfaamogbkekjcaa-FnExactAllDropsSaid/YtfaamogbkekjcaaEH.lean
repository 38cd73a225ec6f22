/- Marking lists: what is found again. No condition. -/
import Derived.Test.YtfaamogbkekjcaaEW
import Derived.Deep.RegionHeld
namespace Go.Proofs.Ytfaamogbkekjcaa.Leaf
open Go.RowKit
set_option linter.unusedVariables false
set_option linter.unusedSimpArgs false
set_option maxRecDepth 100000
theorem ag54 : Go.Sx.aggT Try.prog 31 = some false := by kernel_rfl
/-- The first cells behind a slice are marks. -/
def Held (b off n : Nat) (mv : Nat → Value) (w : World) : Prop := b < w.heap.size ∧ ∀ i, i < n → w.cell? ⟨b, off + i, none⟩ = some (mv i)
theorem Held.below {b off n : Nat} {mv : Nat → Value} {w w' : World} (h : Held b off n mv w) (k : Below w.heap.size w w') : Held b off n mv w' :=
  ⟨Nat.lt_of_lt_of_le h.1 k.size, fun i hi => (k.cell (p := ⟨b, off + i, none⟩) h.1).trans (h.2 i hi)⟩
theorem wpList_ld {ops : Array Oper} {rest : List Oper} {o : Oper} {a : Act} {Q : Exit → Act → World → Prop} {b off n p ad : Nat} {mv : Nat → Value} {w wr : World} (hH : Hid (Held b off n mv w)) (hbel : Below w.heap.size w wr)
    (hg : o.guard = none) (x : Operand) (t : TypeId) (hop : o.op = Op.load t x) (hx : a.eval x = .pointer (some ⟨b, ad, none⟩)) (ha : Go.Sx.aggT Try.prog t = some false) (hp : ad = off + p) (hn : p < n) {v : Value} (hv : mv p = v)
    (hK : wpList Try.prog ops Q rest (a.put o.dst v) wr) : wpList Try.prog ops Q (o :: rest) a wr := by
  subst hp; subst hv
  have hc := (hH.out.below hbel).2 p hn
  exact wpList_load _ hg x t hop _ hx _ (by unfold loadVar; simp [Go.Sx.aggT_run ha, hc]) hK
theorem wpList_neq {P : Program} (w : World) {ops : Array Oper} {rest : List Oper} {o : Oper} {a : Act} {Q : Exit → Act → World → Prop}
    (hg : o.guard = none) (x y : Operand) (t ty : TypeId) (hop : o.op = Op.binOp .neq t x y ty) {v : Value} (hx : a.eval x = v) (hy : a.eval y = v) (h1 : (eqGuard .neq t x y v v).run P w = .ok () w) (h2 : (binOp .neq t v v).run P w = .ok (.bool false) w)
    (hK : wpList P ops Q rest (a.put o.dst (.bool false)) w) : wpList P ops Q (o :: rest) a w := by
  refine wpList_plain hg fun K hK' => ?_
  unfold Oper.wp
  simp [execOp, hop, hx, hy, h1, h2]
  exact hK' _ _ hK
theorem neq_i (k : IntKind) (n : Int) (t : TypeId) (P : Program) (w : World) : (binOp .neq t (.int k n) (.int k n)).run P w = .ok (.bool false) w := by
  have hb : binOp .neq t (.int k n) (.int k n) = pure (.bool (n != n)) := by
    cases k <;> rfl
  rw [hb]
  simp
set_option maxHeartbeats 4000000 in
theorem heldD_walk (b off len cap : Nat) (w : World) (hh : Held b off (6 * len) mvD w) (hm : len ≤ 1048576) :
    Calls Try.prog 8 #[.slice (some ⟨b, off, none⟩) len cap, .int .i64 1] w fun e1 w' => e1 = .returned (.int .i64 (1 + 6 * len)) ∧ Below w.heap.size w w' := by
  have H0 : Hid (Held b off (6 * len) mvD w) := hh
  clear hh
  go_enter Try.func8, Try.ntmps8
  go_wp2
  go_loopw [1, 5] (fun kk i wr => ∃ (k : Nat), k ≤ len ∧ i = .int .i64 k ∧ kk = .int .i64 (6 * k + 1 : Nat) ∧ Below w.heap.size w wr) (fun _ i _ => len - (intOf i).toNat)
  case atStart => exact ⟨0, Nat.zero_le _, rfl, rfl, Below.refl _ _⟩
  case round =>
    obtain ⟨k, hk, rfl, rfl, hbel⟩ := hrel
    go_wp2
    · have hkl : k < len := by assumption
      rw [decide_eq_true hkl]
      go_loopw [1, 6] (fun kk i wr => ∃ (q : Nat), q ≤ 6 ∧ i = .int .i64 q ∧ kk = .int .i64 (6 * k + 1 + q : Nat) ∧ Below w.heap.size w wr) (fun _ i _ => 6 - (intOf i).toNat)
      case atStart => exact ⟨0, Nat.zero_le _, rfl, by go_num, hbel⟩
      case round =>
        obtain ⟨q, hq, rfl, rfl, hbq⟩ := hrel
        go_wp2_with (first | (refine wpList_conv _ rfl _ 3 31 rfl _ (conv_is _ _) ?_) | (refine wpList_ld (p := 6 * k + q) H0 hbq rfl _ 31 rfl rfl ag54 (by omega) (by omega) (mvD_e (n := 6 * k + 1 + q) (by omega)).symm ?_) | (refine wpList_neq _ rfl _ _ 31 31 rfl rfl rfl rfl (neq_i _ _ _ _ _) ?_) | go_in)
        · go_roundw
          case rel => exact ⟨q + 1, by omega, by go_num, by go_num, hbq⟩
          case measure => simp [intOf]; omega
        · go_roundw
          case rel => exact ⟨k + 1, by omega, by go_num, by go_num, hbq⟩
          case measure => simp [intOf]; omega
    · go_ret
      have hkl : k = len := by omega
      subst hkl
      exact ⟨by simp; omega, hbel⟩
end Go.Proofs.Ytfaamogbkekjcaa.Leaf
