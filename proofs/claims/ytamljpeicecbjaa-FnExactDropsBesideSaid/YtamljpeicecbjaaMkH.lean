/- Marking lists: what is found again. No condition. -/
import Derived.Test.YtamljpeicecbjaaMkW
import Derived.Deep.RegionHeld
namespace Go.Proofs.Ytamljpeicecbjaa.Leaf
open Go.RowKit
set_option linter.unusedVariables false
set_option linter.unusedSimpArgs false
set_option maxRecDepth 100000
theorem ag9 : Go.Sx.aggT Try.prog 9 = some false := by kernel_rfl
theorem ag22 : Go.Sx.aggT Try.prog 22 = some false := by kernel_rfl
theorem ag2 : Go.Sx.aggT Try.prog 2 = some false := by kernel_rfl
theorem ag54 : Go.Sx.aggT Try.prog 54 = some false := by kernel_rfl
/-- The first cells behind a slice are marks. -/
def Held (b off n : Nat) (mv : Nat → Value) (w : World) : Prop := b < w.heap.size ∧ ∀ i, i < n → w.cell? ⟨b, off + i, none⟩ = some (mv i)
theorem Held.below {b off n : Nat} {mv : Nat → Value} {w w' : World} (h : Held b off n mv w) (k : Below w.heap.size w w') : Held b off n mv w' :=
  ⟨Nat.lt_of_lt_of_le h.1 k.size, fun i hi => (k.cell (p := ⟨b, off + i, none⟩) h.1).trans (h.2 i hi)⟩
theorem wpList_ld {ops : Array Oper} {rest : List Oper} {o : Oper} {a : Act} {Q : Exit → Act → World → Prop} {b off n p ad : Nat} {mv : Nat → Value} {w wr : World} (hH : Hid (Held b off n mv w)) (hbel : Below w.heap.size w wr)
    (hg : o.guard = none) (x : Operand) (t : TypeId) (hop : o.op = Op.load t x) (hx : a.eval x = .pointer (some ⟨b, ad, none⟩)) (ha : Go.Sx.aggT Try.prog t = some false) (hp : ad = off + p) (hn : p < n) {v : Value} (hv : mv p = v)
    (hK : wpList Try.prog ops Q rest (a.put o.dst v) wr) : wpList Try.prog ops Q (o :: rest) a wr := by
  subst hp; subst hv
  have hc := (hH.out.below hbel).2 p hn
  exact wpList_load _ hg x t hop _ hx _ (by unfold loadVar; simp [Go.Sx.aggT_run ha, hc]) hK
theorem wpList_neq {P : Program} (w : World) {ops : Array Oper} {rest : List Oper} {o : Oper} {a : Act} {Q : Exit → Act → World → Prop}
    (hg : o.guard = none) (x y : Operand) (t ty : TypeId) (hop : o.op = Op.binOp .neq t x y ty) {v : Value} (hx : a.eval x = v) (hy : a.eval y = v) (h1 : (eqGuard .neq t x y v v).run P w = .ok () w) (h2 : (binOp .neq t v v).run P w = .ok (.bool false) w)
    (hK : wpList P ops Q rest (a.put o.dst (.bool false)) w) : wpList P ops Q (o :: rest) a w := by
  refine wpList_plain hg fun K hK' => ?_
  unfold Oper.wp
  simp [execOp, hop, hx, hy, h1, h2]
  exact hK' _ _ hK
theorem neq_f (n : Int) (t : TypeId) (P : Program) (w : World) : (binOp .neq t (.float .f32 (FloatKind.f32.nearest n)) (.float .f32 (FloatKind.f32.nearest n))).run P w = .ok (.bool false) w := by
  have hb : binOp .neq t (.float .f32 (FloatKind.f32.nearest n)) (.float .f32 (FloatKind.f32.nearest n)) = Op.floatCmp .neq .f32 (FloatKind.f32.nearest n) (FloatKind.f32.nearest n) := by simp [binOp]
  rw [hb]
  have hs := Go.Sx.F.eq_self .f32 (FloatKind.f32.nearest n)
  rw [show Go.Sx.isNan .f32 (FloatKind.f32.nearest n) = false from Go.Sx.write_notNan .f32 (.number (decide (n < 0)) n.natAbs 0) rfl] at hs
  show Result.ok (Value.bool (!(FloatKind.f32.format.order (FloatKind.f32.nearest n) (FloatKind.f32.nearest n) == some .eq))) w = _
  unfold Go.Sx.F.eq at hs
  rw [hs]; rfl
theorem neq_s (l : List UInt8) (t : TypeId) (P : Program) (w : World) : (binOp .neq t (.string ⟨l.toArray⟩) (.string ⟨l.toArray⟩)).run P w = .ok (.bool false) w := by
  have hb : binOp .neq t (.string ⟨l.toArray⟩) (.string ⟨l.toArray⟩) = Op.stringOp .neq ⟨l.toArray⟩ ⟨l.toArray⟩ := by simp [binOp]
  rw [hb]
  show Result.ok (Value.bool (!((⟨l.toArray⟩ : ByteArray).toList == (⟨l.toArray⟩ : ByteArray).toList))) w = _
  rw [Go.Sx.bytes_eq]; simp
set_option maxHeartbeats 2000000 in
theorem heldF_walk (b off len cap : Nat) (w : World) (hh : Held b off (1 * len) mvF w) (hm : len ≤ 1048576) :
    Calls Try.prog 101 #[.slice (some ⟨b, off, none⟩) len cap, .int .i64 1] w fun e1 w' => e1 = .returned (.int .i64 (1 + 1 * len)) ∧ Below w.heap.size w w' := by
  have H0 : Hid (Held b off (1 * len) mvF w) := hh
  clear hh
  go_enter Try.func101, Try.ntmps101
  go_wp2
  go_loopw [1, 5] (fun kk i wr => ∃ (k : Nat), k ≤ len ∧ i = .int .i64 k ∧ kk = .int .i64 (k + 1 : Nat) ∧ Below w.heap.size w wr) (fun _ i _ => len - (intOf i).toNat)
  case atStart => exact ⟨0, Nat.zero_le _, rfl, rfl, Below.refl _ _⟩
  case round =>
    obtain ⟨k, hk, rfl, rfl, hbel⟩ := hrel
    go_wp2_with (first | (refine wpList_conv _ rfl _ 3 22 rfl _ (conv_if _ _) ?_) | (refine wpList_ld (p := k) H0 hbel rfl _ 22 rfl rfl ag22 (by omega) (by omega) (mvF_e (n := k + 1) (by omega)).symm ?_) | (refine wpList_neq _ rfl _ _ 22 22 rfl rfl rfl rfl (neq_f _ _ _ _) ?_) | go_in)
    · go_roundw
      case rel => exact ⟨k + 1, by omega, by go_num, by go_num, hbel⟩
      case measure => simp [intOf]; omega
    · go_ret
      have hkl : k = len := by omega
      subst hkl
      exact ⟨by simp; omega, hbel⟩
set_option maxHeartbeats 4000000 in
theorem heldC_walk (b off len cap : Nat) (w : World) (hh : Held b off (16 * len) mvF w) (hm : len ≤ 1048576) :
    Calls Try.prog 109 #[.slice (some ⟨b, off, none⟩) len cap, .int .i64 1] w fun e1 w' => e1 = .returned (.int .i64 (1 + 16 * len)) ∧ Below w.heap.size w w' := by
  have H0 : Hid (Held b off (16 * len) mvF w) := hh
  clear hh
  go_enter Try.func109, Try.ntmps109
  go_wp2
  go_loopw [1, 5] (fun kk i wr => ∃ (k : Nat), k ≤ len ∧ i = .int .i64 k ∧ kk = .int .i64 (16 * k + 1 : Nat) ∧ Below w.heap.size w wr) (fun _ i _ => len - (intOf i).toNat)
  case atStart => exact ⟨0, Nat.zero_le _, rfl, rfl, Below.refl _ _⟩
  case round =>
    obtain ⟨k, hk, rfl, rfl, hbel⟩ := hrel
    go_wp2
    · have hkl : k < len := by assumption
      rw [decide_eq_true hkl]
      go_loopw [1, 6] (fun kk i wr => ∃ (q : Nat), q ≤ 16 ∧ i = .int .i64 q ∧ kk = .int .i64 (16 * k + 1 + q : Nat) ∧ Below w.heap.size w wr) (fun _ i _ => 16 - (intOf i).toNat)
      case atStart => exact ⟨0, Nat.zero_le _, rfl, by go_num, hbel⟩
      case round =>
        obtain ⟨q, hq, rfl, rfl, hbq⟩ := hrel
        go_wp2_with (first | (refine wpList_conv _ rfl _ 3 22 rfl _ (conv_if _ _) ?_) | (refine wpList_ld (p := 16 * k + q) H0 hbq rfl _ 22 rfl rfl ag22 (by omega) (by omega) (mvF_e (n := 16 * k + 1 + q) (by omega)).symm ?_) | (refine wpList_neq _ rfl _ _ 22 22 rfl rfl rfl rfl (neq_f _ _ _ _) ?_) | go_in)
        · go_roundw
          case rel => exact ⟨q + 1, by omega, by go_num, by go_num, hbq⟩
          case measure => simp [intOf]; omega
        · go_roundw
          case rel => exact ⟨k + 1, by omega, by go_num, by go_num, hbq⟩
          case measure => simp [intOf]; omega
    · go_ret
      have hkl : k = len := by omega
      subst hkl
      exact ⟨by simp; omega, hbel⟩
theorem neq_i (k : IntKind) (n : Int) (t : TypeId) (P : Program) (w : World) : (binOp .neq t (.int k n) (.int k n)).run P w = .ok (.bool false) w := by
  have hb : binOp .neq t (.int k n) (.int k n) = pure (.bool (n != n)) := by
    cases k <;> rfl
  rw [hb]
  simp
set_option maxHeartbeats 4000000 in
theorem heldD_walk (b off len cap : Nat) (w : World) (hh : Held b off (6 * len) mvD w) (hm : len ≤ 1048576) :
    Calls Try.prog 84 #[.slice (some ⟨b, off, none⟩) len cap, .int .i64 1] w fun e1 w' => e1 = .returned (.int .i64 (1 + 6 * len)) ∧ Below w.heap.size w w' := by
  have H0 : Hid (Held b off (6 * len) mvD w) := hh
  clear hh
  go_enter Try.func84, Try.ntmps84
  go_wp2
  go_loopw [1, 5] (fun kk i wr => ∃ (k : Nat), k ≤ len ∧ i = .int .i64 k ∧ kk = .int .i64 (6 * k + 1 : Nat) ∧ Below w.heap.size w wr) (fun _ i _ => len - (intOf i).toNat)
  case atStart => exact ⟨0, Nat.zero_le _, rfl, rfl, Below.refl _ _⟩
  case round =>
    obtain ⟨k, hk, rfl, rfl, hbel⟩ := hrel
    go_wp2
    · have hkl : k < len := by assumption
      rw [decide_eq_true hkl]
      go_loopw [1, 6] (fun kk i wr => ∃ (q : Nat), q ≤ 6 ∧ i = .int .i64 q ∧ kk = .int .i64 (6 * k + 1 + q : Nat) ∧ Below w.heap.size w wr) (fun _ i _ => 6 - (intOf i).toNat)
      case atStart => exact ⟨0, Nat.zero_le _, rfl, by go_num, hbel⟩
      case round =>
        obtain ⟨q, hq, rfl, rfl, hbq⟩ := hrel
        go_wp2_with (first | (refine wpList_conv _ rfl _ 3 54 rfl _ (conv_is _ _) ?_) | (refine wpList_ld (p := 6 * k + q) H0 hbq rfl _ 54 rfl rfl ag54 (by omega) (by omega) (mvD_e (n := 6 * k + 1 + q) (by omega)).symm ?_) | (refine wpList_neq _ rfl _ _ 54 54 rfl rfl rfl rfl (neq_i _ _ _ _ _) ?_) | go_in)
        · go_roundw
          case rel => exact ⟨q + 1, by omega, by go_num, by go_num, hbq⟩
          case measure => simp [intOf]; omega
        · go_roundw
          case rel => exact ⟨k + 1, by omega, by go_num, by go_num, hbq⟩
          case measure => simp [intOf]; omega
    · go_ret
      have hkl : k = len := by omega
      subst hkl
      exact ⟨by simp; omega, hbel⟩
theorem mvP_se (k : Nat) {n : Nat} (h : n = 34 * k + 1) : mvP (34 * k) = .string ⟨(mtB n).toArray⟩ := by rw [mvP_s, h]
set_option maxHeartbeats 8000000 in
theorem heldP_walk (b off len cap : Nat) (w : World) (hh : Held b off (34 * len) mvP w) (hm : len ≤ 1048576) :
    Calls Try.prog 164 #[.slice (some ⟨b, off, none⟩) len cap, .int .i64 1] w fun e1 w' => e1 = .returned (.int .i64 (1 + 34 * len)) ∧ Below w.heap.size w w' := by
  have H0 : Hid (Held b off (34 * len) mvP w) := hh
  clear hh
  go_enter Try.func164, Try.ntmps164
  go_wp2
  go_loopw [1, 5] (fun kk i wr => ∃ (k : Nat), k ≤ len ∧ i = .int .i64 k ∧ kk = .int .i64 (34 * k + 1 : Nat) ∧ Below w.heap.size w wr) (fun _ i _ => len - (intOf i).toNat)
  case atStart => exact ⟨0, Nat.zero_le _, rfl, rfl, Below.refl _ _⟩
  case round =>
    obtain ⟨k, hk, rfl, rfl, hbel⟩ := hrel
    go_wp2
    · have hkl : k < len := by assumption
      have hc : ∀ w2, Below w.heap.size w w2 → w2.cell? ⟨b, off + k * 34, none⟩ = some (.string ⟨(mtB (34 * k + 1)).toArray⟩) := fun w2 hb2 => by
        have := (H0.out.below hb2).2 (34 * k) (by omega)
        rw [mvP_s] at this
        rw [show off + k * 34 = off + 34 * k by omega]; exact this
      have HC : Hid (∀ w2, Below w.heap.size w w2 → w2.cell? ⟨b, off + k * 34, none⟩ = some (.string ⟨(mtB (34 * k + 1)).toArray⟩)) := hc
      clear hc
      go_region_held (fun w' => w'.cell? ⟨b, off + k * 34, none⟩ = some (.string ⟨(mtB (34 * k + 1)).toArray⟩) ∧ Below w.heap.size w w') (first | exact ⟨HC.out _ hbel.drew, hbel.drew⟩ | exact ⟨HC.out _ (hbel.drew.trans (hb'.mono hbel.drew.size)), hbel.drew.trans (hb'.mono hbel.drew.size)⟩ | assumption)
        (first | (go_at_call 202; refine (mt_walk (34 * k + 1) (by omega) (by omega) _).mono ?_; rintro e' w' ⟨rfl, hb'⟩))
      have hbel2 : Below w.heap.size w w' := hbel.drew.trans (hb'.mono hbel.drew.size)
      clear hbel hb'
      go_wp2
      go_loopw [1, 6] (fun kk i wr => ∃ (q : Nat), q ≤ 16 ∧ i = .int .i64 q ∧ kk = .int .i64 (34 * k + 2 + q : Nat) ∧ Below w.heap.size w wr) (fun _ i _ => 16 - (intOf i).toNat)
      case atStart => exact ⟨0, Nat.zero_le _, rfl, by go_num, hbel2⟩
      case round =>
        obtain ⟨q, hq, rfl, rfl, hbq⟩ := hrel
        go_wp2_with (first | (refine wpList_conv _ rfl _ 3 22 rfl _ (conv_if _ _) ?_) | (refine wpList_ld (p := 34 * k + 1 + q) H0 hbq rfl _ 22 rfl rfl ag22 (by omega) (by omega) (mvP_fe (n := 34 * k + 2 + q) (by omega) (by omega) (by omega)).symm ?_) | (refine wpList_neq _ rfl _ _ 22 22 rfl rfl rfl rfl (neq_f _ _ _ _) ?_) | go_in)
        · go_roundw
          case rel => exact ⟨q + 1, by omega, by go_num, by go_num, hbq⟩
          case measure => simp [intOf]; omega
        · go_loopw [1, 7] (fun kk i wr => ∃ (q : Nat), q ≤ 16 ∧ i = .int .i64 q ∧ kk = .int .i64 (34 * k + 18 + q : Nat) ∧ Below w.heap.size w wr) (fun _ i _ => 16 - (intOf i).toNat)
          case atStart => exact ⟨0, Nat.zero_le _, rfl, by go_num, hbq⟩
          case round =>
            obtain ⟨q2, hq2, rfl, rfl, hbr⟩ := hrel
            go_wp2_with (first | (refine wpList_conv _ rfl _ 3 22 rfl _ (conv_if _ _) ?_) | (refine wpList_ld (p := 34 * k + 17 + q2) H0 hbr rfl _ 22 rfl rfl ag22 (by omega) (by omega) (mvP_fe (n := 34 * k + 18 + q2) (by omega) (by omega) (by omega)).symm ?_) | (refine wpList_ld (p := 34 * k + 33) H0 hbr rfl _ 2 rfl rfl ag2 (by omega) (by omega) (mvP_ie k (n := 34 * k + 18 + q2) (by omega)).symm ?_) | (refine wpList_neq _ rfl _ _ 22 22 rfl rfl rfl rfl (neq_f _ _ _ _) ?_) | go_in)
            · exact ⟨⟨q2 + 1, by omega, by go_num, by go_num, hbr⟩, by simp [intOf]; omega⟩
            · exact ⟨⟨k + 1, by omega, by go_num, by go_num, hbr⟩, by simp [intOf]; omega⟩
    · go_ret
      have hkl : k = len := by omega
      subst hkl
      exact ⟨by simp; omega, hbel⟩
end Go.Proofs.Ytamljpeicecbjaa.Leaf
