/- Marking lists: what is written, cell for cell. No condition. -/
import Derived.Test.YtamljpeicecbjaaMkT
namespace Go.Proofs.Ytamljpeicecbjaa.Leaf
open Go.RowKit
set_option linter.unusedVariables false
set_option linter.unusedSimpArgs false
set_option maxRecDepth 100000
/-- A world in which one block has been written to and new ones made. -/
structure Keeps (g : Nat) (w w' : World) : Prop where
  os : w'.os = w.os
  tape : w'.tape = w.tape
  output : w'.output = w.output
  size : w.heap.size ≤ w'.heap.size
  block : ∀ k, k < w.heap.size → k ≠ g → w'.heap[k]? = w.heap[k]?
theorem Keeps.refl (g : Nat) (w : World) : Keeps g w w := ⟨rfl, rfl, rfl, Nat.le_refl _, fun _ _ _ => rfl⟩
theorem Keeps.below {g : Nat} {w w1 w2 : World} (h : Keeps g w w1) (k : Below w1.heap.size w1 w2) : Keeps g w w2 :=
  ⟨k.os.trans h.os, k.tape.trans h.tape, k.output.trans h.output, Nat.le_trans h.size k.size, fun i hi hne => (k.block i (Nat.lt_of_lt_of_le hi h.size)).trans (h.block i hi hne)⟩
theorem Keeps.setRow {g : Nat} {w w1 : World} (h : Keeps g w w1) (cs : Array Value) : Keeps g w (w1.setRow g cs) :=
  ⟨h.os, h.tape, h.output, by simpa [World.setRow] using h.size, fun i hi hne => by
    simp only [World.setRow, Array.getElem?_modify]
    rw [if_neg (by omega)]
    exact h.block i hi hne⟩
theorem sz9 : Go.Sx.szT Try.prog 9 = some 1 := by kernel_rfl
theorem sz22 : Go.Sx.szT Try.prog 22 = some 1 := by kernel_rfl
theorem sz2 : Go.Sx.szT Try.prog 2 = some 1 := by kernel_rfl
theorem sz54 : Go.Sx.szT Try.prog 54 = some 1 := by kernel_rfl
/-- The first p cells of a block are marked. -/
structure Mk (g : Nat) (e : TypeId) (w wr : World) (arr0 : Array Value) (mv : Nat → Value) (p : Nat) : Prop where
  ex : ∃ arr, wr.heap[g]? = some (.cells arr e (0, 0)) ∧ arr.size = arr0.size ∧ (∀ i, i < p → arr[i]? = some (mv i)) ∧ (∀ i, p ≤ i → arr[i]? = arr0[i]?)
  keeps : Keeps g w wr
theorem Mk.store {g p : Nat} {e t : TypeId} {w wr : World} {arr0 : Array Value} {mv : Nat → Value} (h : Mk g e w wr arr0 mv p) (hn : Go.Sx.szT Try.prog t = some 1) (h1 : (mv p).oneCell' = true) (hp : p < arr0.size) : ∃ w', (storeVar t ⟨g, p, none⟩ (mv p)).run Try.prog wr = .ok () w' ∧ Mk g e w w' arr0 mv (p + 1) := by
  obtain ⟨⟨arr, hg, hs, hm, hr⟩, hk⟩ := h
  have hc := Go.Sx.one_cells h1
  have e1 : (arr.toList.take p ++ (mv p).cells.toList ++ arr.toList.drop (p + 1)) = arr.toList.set p (mv p) := by
    rw [hc, List.set_eq_take_append_cons_drop]
    rw [if_pos (by simp; omega)]
    simp
  have h2 := Go.Sx.storeVar_run (arr := arr) (o := p) (e := e) (v := mv p) hn (by rw [hc]; rfl) (by rw [hc]; simp [h1]) hg (by omega)
  rw [e1] at h2
  refine ⟨_, h2, ⟨_, setRow_heap _ _ arr _ _ _ hg, by simp [hs], fun i hi => ?_, fun i hi => ?_⟩, hk.setRow _⟩
  · rw [List.getElem?_toArray, List.getElem?_set]
    by_cases hip : p = i
    · subst hip
      rw [if_pos rfl, if_pos (by simp; omega)]
    · rw [if_neg hip, Array.getElem?_toList]
      exact hm i (by omega)
  · rw [List.getElem?_toArray, List.getElem?_set, if_neg (by omega), Array.getElem?_toList]
    exact hr i (by omega)
theorem Mk.below {g p : Nat} {e : TypeId} {w w1 w2 : World} {arr0 : Array Value} {mv : Nat → Value} (h : Mk g e w w1 arr0 mv p) (k : Below w1.heap.size w1 w2) : Mk g e w w2 arr0 mv p := by
  obtain ⟨⟨arr, hg, hs⟩, hk⟩ := h
  exact ⟨⟨arr, (k.block _ (Array.getElem?_eq_some_iff.1 hg).1).trans hg, hs⟩, hk.below k⟩
theorem wpList_mk {ops : Array Oper} {rest : List Oper} {o : Oper} {a : Act} {Q : Exit → Act → World → Prop} {g p off : Nat} {e : TypeId} {w wr : World} {arr0 : Array Value} {mv : Nat → Value} (hM : Hid (Mk g e w wr arr0 mv p))
    (hg : o.guard = none) (x y : Operand) (t : TypeId) (hop : o.op = Op.store t x y) (hx : a.eval x = .pointer (some ⟨g, off, none⟩)) (ho : off = p) {v : Value} (hy : a.eval y = v) (hv : v = mv p) (hn : Go.Sx.szT Try.prog t = some 1) (h1 : v.oneCell' = true) (hp : p < arr0.size)
    (hK : ∀ w', Hid (Mk g e w w' arr0 mv (p + 1)) → wpList Try.prog ops Q rest (a.put o.dst undef) w') : wpList Try.prog ops Q (o :: rest) a wr := by
  subst hv; subst ho
  obtain ⟨w', h2, h3⟩ := hM.out.store hn h1 hp
  exact wpList_store _ _ hg x y t hop _ hx _ hy h2 (hK _ h3)
theorem tu3 : Try.prog.underlying 3 = some (.int .i64) := by kernel_rfl
theorem tu22 : Try.prog.underlying 22 = some (.float .f32) := by kernel_rfl
theorem tu2 : Try.prog.underlying 2 = some (.int .i64) := by kernel_rfl
theorem tu54 : Try.prog.underlying 54 = some (.int .i16) := by kernel_rfl
theorem conv_if (n : Int) (w : World) : (convert 3 22 (.int .i64 n)).run Try.prog w = .ok (.float .f32 (FloatKind.f32.nearest n)) w := by
  simp only [convert, Sem.run_bind, run_underlying tu3, run_underlying tu22, Result.andThen_ok]
  rfl
theorem conv_ii (n : Int) (w : World) : (convert 3 2 (.int .i64 n)).run Try.prog w = .ok (.int .i64 (IntKind.i64.wrap n)) w := by
  simp only [convert, Sem.run_bind, run_underlying tu3, run_underlying tu2, Result.andThen_ok]
  rfl
theorem conv_is (n : Int) (w : World) : (convert 3 54 (.int .i64 n)).run Try.prog w = .ok (.int .i16 (IntKind.i16.wrap n)) w := by
  simp only [convert, Sem.run_bind, run_underlying tu3, run_underlying tu54, Result.andThen_ok]
  rfl
/-- The marks: in pigments, in floats, in drops. -/
def mvP (i : Nat) : Value := if i % 34 = 0 then .string ⟨(mtB (i + 1)).toArray⟩ else if i % 34 = 33 then .int .i64 ((i + 1 : Nat) : Int) else .float .f32 (FloatKind.f32.nearest ((i + 1 : Nat) : Int))
def mvF (i : Nat) : Value := .float .f32 (FloatKind.f32.nearest ((i + 1 : Nat) : Int))
def mvD (i : Nat) : Value := .int .i16 (IntKind.i16.wrap ((i + 1 : Nat) : Int))
theorem mvP_s (k : Nat) : mvP (34 * k) = .string ⟨(mtB (34 * k + 1)).toArray⟩ := by unfold mvP; rw [if_pos (by omega)]
theorem mvP_i (k : Nat) : mvP (34 * k + 33) = .int .i64 ((34 * k + 33 + 1 : Nat) : Int) := by unfold mvP; rw [if_neg (by omega), if_pos (by omega)]
theorem mvP_f {i : Nat} (h1 : i % 34 ≠ 0) (h2 : i % 34 ≠ 33) : mvP i = .float .f32 (FloatKind.f32.nearest ((i + 1 : Nat) : Int)) := by unfold mvP; rw [if_neg h1, if_neg h2]
theorem mvP_fe {i : Nat} {n : Int} (h : n = ((i + 1 : Nat) : Int)) (h1 : i % 34 ≠ 0) (h2 : i % 34 ≠ 33) : Value.float .f32 (FloatKind.f32.nearest n) = mvP i := by rw [mvP_f h1 h2, h]
theorem mvP_ie (k : Nat) {n : Int} (h : n = ((34 * k + 33 + 1 : Nat) : Int)) : Value.int .i64 n = mvP (34 * k + 33) := by rw [mvP_i, h]
theorem mk_at {g p q : Nat} {e : TypeId} {w wr : World} {arr0 : Array Value} {mv : Nat → Value} (h : Hid (Mk g e w wr arr0 mv p)) (hq : p = q) : Hid (Mk g e w wr arr0 mv q) := hq ▸ h
set_option maxHeartbeats 2000000 in
theorem markP_walk (g len cap : Nat) (w : World) (e : TypeId) (arr : Array Value) (hg : w.heap[g]? = some (.cells arr e (0, 0))) (hs : len * 34 ≤ arr.size) (hlen : len ≤ cap) (hm : len ≤ 1048576) :
    Calls Try.prog 163 #[.slice (some ⟨g, 0, none⟩) len cap, .int .i64 1] w fun e1 w' => e1 = .returned (.int .i64 (1 + 34 * len)) ∧ Mk g e w w' arr mvP (34 * len) := by
  have H0 : Hid (Mk g e w w arr mvP (34 * 0)) := ⟨⟨arr, hg, rfl, fun i hi => by omega, fun _ _ => rfl⟩, Keeps.refl _ _⟩
  clear hg
  go_enter Try.func163, Try.ntmps163
  go_wp2
  go_loopw [1, 5] (fun kk i wr => ∃ (k : Nat), k ≤ len ∧ i = .int .i64 k ∧ kk = .int .i64 (34 * k + 1 : Nat) ∧ Hid (Mk g e w wr arr mvP (34 * k))) (fun _ i _ => len - (intOf i).toNat)
  case atStart => exact ⟨0, Nat.zero_le _, rfl, rfl, H0⟩
  case round =>
    obtain ⟨k, hk, rfl, rfl, HM⟩ := hrel
    go_wp2_with (first | (refine wpList_mk HM2 rfl _ _ 9 rfl rfl (by omega) rfl (mvP_s k).symm sz9 rfl (by omega) ?_; intro w3 HM3) | (go_at_call 202; refine (mt_walk (34 * k + 1) (by omega) (by omega) _).mono ?_; rintro e' w' ⟨rfl, hb'⟩; have HM2 : Hid (Mk g e w w' arr mvP (34 * k)) := HM.out.below hb') | go_in)
    · go_loopw [1, 6] (fun kk i wr => ∃ (q : Nat), q ≤ 16 ∧ i = .int .i64 q ∧ kk = .int .i64 (34 * k + 2 + q : Nat) ∧ Hid (Mk g e w wr arr mvP (34 * k + 1 + q))) (fun _ i _ => 16 - (intOf i).toNat)
      case atStart => exact ⟨0, Nat.zero_le _, rfl, by go_num, HM3⟩
      case round =>
        obtain ⟨q, hq, rfl, rfl, HMq⟩ := hrel
        go_wp2_with (first | (refine wpList_conv _ rfl _ 3 22 rfl _ (conv_if _ _) ?_) | (refine wpList_mk HMq rfl _ _ 22 rfl rfl (by omega) rfl (mvP_fe (by omega) (by omega) (by omega)) sz22 rfl (by omega) ?_; intro w4 HM4) | go_in)
        · go_roundw
          case rel => exact ⟨q + 1, by omega, by go_num, by go_num, HM4⟩
          case measure => simp [intOf]; omega
        · go_loopw [1, 7] (fun kk i wr => ∃ (q : Nat), q ≤ 16 ∧ i = .int .i64 q ∧ kk = .int .i64 (34 * k + 18 + q : Nat) ∧ Hid (Mk g e w wr arr mvP (34 * k + 17 + q))) (fun _ i _ => 16 - (intOf i).toNat)
          case atStart => exact ⟨0, Nat.zero_le _, rfl, by go_num, mk_at HMq (by omega)⟩
          case round =>
            obtain ⟨q2, hq2, rfl, rfl, HMr⟩ := hrel
            go_wp2_with (first | (refine wpList_conv _ rfl _ 3 22 rfl _ (conv_if _ _) ?_) | (refine wpList_mk HMr rfl _ _ 22 rfl rfl (by omega) rfl (mvP_fe (by omega) (by omega) (by omega)) sz22 rfl (by omega) ?_; intro w4 HM4) | (refine wpList_mk (p := 34 * k + 33) (mk_at HMr (by omega)) rfl _ _ 2 rfl rfl (by omega) rfl (mvP_ie k (by omega)) sz2 rfl (by omega) ?_; intro w4 HM4) | go_in)
            · go_roundw
              case rel => exact ⟨q2 + 1, by omega, by go_num, by go_num, HM4⟩
              case measure => simp [intOf]; omega
            · go_roundw
              case rel => exact ⟨k + 1, by omega, by go_num, by go_num, HM4⟩
              case measure => simp [intOf]; omega
    · go_ret
      have hkl : k = len := by omega
      subst hkl
      exact ⟨by simp; omega, HM.out⟩
theorem mvF_e {i : Nat} {n : Int} (h : n = ((i + 1 : Nat) : Int)) : Value.float .f32 (FloatKind.f32.nearest n) = mvF i := by unfold mvF; rw [h]
theorem mvD_e {i : Nat} {n : Int} (h : n = ((i + 1 : Nat) : Int)) : Value.int .i16 (IntKind.i16.wrap n) = mvD i := by unfold mvD; rw [h]
set_option maxHeartbeats 2000000 in
theorem markC_walk (g len cap : Nat) (w : World) (e : TypeId) (arr : Array Value) (hg : w.heap[g]? = some (.cells arr e (0, 0))) (hs : len * 16 ≤ arr.size) (hlen : len ≤ cap) (hm : len ≤ 1048576) :
    Calls Try.prog 99 #[.slice (some ⟨g, 0, none⟩) len cap, .int .i64 1] w fun e1 w' => e1 = .returned (.int .i64 (1 + 16 * len)) ∧ Mk g e w w' arr mvF (16 * len) := by
  have H0 : Hid (Mk g e w w arr mvF (16 * 0)) := ⟨⟨arr, hg, rfl, fun i hi => by omega, fun _ _ => rfl⟩, Keeps.refl _ _⟩
  clear hg
  go_enter Try.func99, Try.ntmps99
  go_wp2
  go_loopw [1, 5] (fun kk i wr => ∃ (k : Nat), k ≤ len ∧ i = .int .i64 k ∧ kk = .int .i64 (16 * k + 1 : Nat) ∧ Hid (Mk g e w wr arr mvF (16 * k))) (fun _ i _ => len - (intOf i).toNat)
  case atStart => exact ⟨0, Nat.zero_le _, rfl, rfl, H0⟩
  case round =>
    obtain ⟨k, hk, rfl, rfl, HM⟩ := hrel
    go_wp2
    · have hkl : k < len := by assumption
      rw [decide_eq_true hkl]
      go_loopw [1, 6] (fun kk i wr => ∃ (q : Nat), q ≤ 16 ∧ i = .int .i64 q ∧ kk = .int .i64 (16 * k + 1 + q : Nat) ∧ Hid (Mk g e w wr arr mvF (16 * k + q))) (fun _ i _ => 16 - (intOf i).toNat)
      case atStart => exact ⟨0, Nat.zero_le _, rfl, by go_num, HM⟩
      case round =>
        obtain ⟨q, hq, rfl, rfl, HMq⟩ := hrel
        go_wp2_with (first | (refine wpList_conv _ rfl _ 3 22 rfl _ (conv_if _ _) ?_) | (refine wpList_mk HMq rfl _ _ 22 rfl rfl (by omega) rfl (mvF_e (by omega)) sz22 rfl (by omega) ?_; intro w4 HM4) | go_in)
        · go_roundw
          case rel => exact ⟨q + 1, by omega, by go_num, by go_num, HM4⟩
          case measure => simp [intOf]; omega
        · go_roundw
          case rel => exact ⟨k + 1, by omega, by go_num, by go_num, mk_at HMq (by omega)⟩
          case measure => simp [intOf]; omega
    · go_ret
      have hkl : k = len := by omega
      subst hkl
      exact ⟨by simp; omega, HM.out⟩
set_option maxHeartbeats 2000000 in
theorem markD_walk (g len cap : Nat) (w : World) (e : TypeId) (arr : Array Value) (hg : w.heap[g]? = some (.cells arr e (0, 0))) (hs : len * 6 ≤ arr.size) (hlen : len ≤ cap) (hm : len ≤ 1048576) :
    Calls Try.prog 83 #[.slice (some ⟨g, 0, none⟩) len cap, .int .i64 1] w fun e1 w' => e1 = .returned (.int .i64 (1 + 6 * len)) ∧ Mk g e w w' arr mvD (6 * len) := by
  have H0 : Hid (Mk g e w w arr mvD (6 * 0)) := ⟨⟨arr, hg, rfl, fun i hi => by omega, fun _ _ => rfl⟩, Keeps.refl _ _⟩
  clear hg
  go_enter Try.func83, Try.ntmps83
  go_wp2
  go_loopw [1, 5] (fun kk i wr => ∃ (k : Nat), k ≤ len ∧ i = .int .i64 k ∧ kk = .int .i64 (6 * k + 1 : Nat) ∧ Hid (Mk g e w wr arr mvD (6 * k))) (fun _ i _ => len - (intOf i).toNat)
  case atStart => exact ⟨0, Nat.zero_le _, rfl, rfl, H0⟩
  case round =>
    obtain ⟨k, hk, rfl, rfl, HM⟩ := hrel
    go_wp2
    · have hkl : k < len := by assumption
      rw [decide_eq_true hkl]
      go_loopw [1, 6] (fun kk i wr => ∃ (q : Nat), q ≤ 6 ∧ i = .int .i64 q ∧ kk = .int .i64 (6 * k + 1 + q : Nat) ∧ Hid (Mk g e w wr arr mvD (6 * k + q))) (fun _ i _ => 6 - (intOf i).toNat)
      case atStart => exact ⟨0, Nat.zero_le _, rfl, by go_num, HM⟩
      case round =>
        obtain ⟨q, hq, rfl, rfl, HMq⟩ := hrel
        go_wp2_with (first | (refine wpList_conv _ rfl _ 3 54 rfl _ (conv_is _ _) ?_) | (refine wpList_mk HMq rfl _ _ 54 rfl rfl (by omega) rfl (mvD_e (by omega)) sz54 rfl (by omega) ?_; intro w4 HM4) | go_in)
        · go_roundw
          case rel => exact ⟨q + 1, by omega, by go_num, by go_num, HM4⟩
          case measure => simp [intOf]; omega
        · go_roundw
          case rel => exact ⟨k + 1, by omega, by go_num, by go_num, mk_at HMq (by omega)⟩
          case measure => simp [intOf]; omega
    · go_ret
      have hkl : k = len := by omega
      subst hkl
      exact ⟨by simp; omega, HM.out⟩
set_option maxHeartbeats 2000000 in
theorem markF_walk (g len cap : Nat) (w : World) (e : TypeId) (arr : Array Value) (hg : w.heap[g]? = some (.cells arr e (0, 0))) (hs : len * 1 ≤ arr.size) (hlen : len ≤ cap) (hm : len ≤ 1048576) :
    Calls Try.prog 100 #[.slice (some ⟨g, 0, none⟩) len cap, .int .i64 1] w fun e1 w' => e1 = .returned (.int .i64 (1 + 1 * len)) ∧ Mk g e w w' arr mvF (1 * len) := by
  have H0 : Hid (Mk g e w w arr mvF 0) := ⟨⟨arr, hg, rfl, fun i hi => by omega, fun _ _ => rfl⟩, Keeps.refl _ _⟩
  clear hg
  go_enter Try.func100, Try.ntmps100
  go_wp2
  go_loopw [1, 5] (fun kk i wr => ∃ (k : Nat), k ≤ len ∧ i = .int .i64 k ∧ kk = .int .i64 (k + 1 : Nat) ∧ Hid (Mk g e w wr arr mvF k)) (fun _ i _ => len - (intOf i).toNat)
  case atStart => exact ⟨0, Nat.zero_le _, rfl, rfl, H0⟩
  case round =>
    obtain ⟨k, hk, rfl, rfl, HM⟩ := hrel
    go_wp2_with (first | (refine wpList_conv _ rfl _ 3 22 rfl _ (conv_if _ _) ?_) | (refine wpList_mk HM rfl _ _ 22 rfl rfl (by omega) rfl (mvF_e (by omega)) sz22 rfl (by omega) ?_; intro w4 HM4) | go_in)
    · go_roundw
      case rel => exact ⟨k + 1, by omega, by go_num, by go_num, HM4⟩
      case measure => simp [intOf]; omega
    · go_ret
      have hkl : k = len := by omega
      subst hkl
      exact ⟨by simp; omega, by rw [Nat.one_mul]; exact HM.out⟩
end Go.Proofs.Ytamljpeicecbjaa.Leaf
