/- Marking lists: what the laws' own functions write and look for. No condition. -/
import Derived.Test.YtamljpeicecbjaaBigTo
import Derived.Deep.RegionHeld
import Derived.Test.YtamljpeicecbjaaSxRes
namespace Go.Proofs.Ytamljpeicecbjaa.Leaf
open Go.RowKit
set_option linter.unusedVariables false
set_option linter.unusedSimpArgs false
set_option maxRecDepth 100000
theorem wpList_conv {P : Program} (w : World) {ops : Array Oper} {rest : List Oper} {o : Oper} {a : Act} {Q : Exit → Act → World → Prop}
    (hg : o.guard = none) (x : Operand) (s d : TypeId) (hop : o.op = Op.convert s d x) (v : Value) (hv : (convert s d (a.eval x)).run P w = .ok v w)
    (hK : wpList P ops Q rest (a.put o.dst v) w) : wpList P ops Q (o :: rest) a w := by
  refine wpList_plain hg fun K hK' => ?_
  unfold Oper.wp
  simp [execOp, hop, hv]
  exact hK' _ _ hK
theorem conv_bytes {P : Program} {s d e : TypeId} (hs : P.underlying s = some (.slice e)) (he : P.underlying e = some (.int .u8)) (hd : P.underlying d = some .string) (w : World) (n : Int) (ty : TypeId) :
    (convert s d (.slice (some ⟨w.heap.size, 0, none⟩) 1 1)).run P (w.alloc (.cells #[.int .u8 n] ty)) = .ok (.string ⟨#[UInt8.ofNat n.toNat]⟩) (w.alloc (.cells #[.int .u8 n] ty)) := by
  rw [run_convert_bytes_string _ s d e _ 1 1 hs he hd]
  have hh : (w.alloc (.cells #[.int .u8 n] ty)).heap[w.heap.size]? = some (.cells #[.int .u8 n] ty) := Array.getElem?_push_size
  have hload : (loadCells ⟨w.heap.size, 0, none⟩ 1).run P (w.alloc (.cells #[.int .u8 n] ty)) = .ok ([n].map (Value.int .u8)).toArray (w.alloc (.cells #[.int .u8 n] ty)) := by
    refine run_loadCells_list (P := P) (w.alloc (.cells #[.int .u8 n] ty)) ⟨w.heap.size, 0, none⟩ [.int .u8 n] (fun j v hv => ?_)
    cases j with
    | zero => simp at hv; subst hv; rw [Go.Sx.add_at]; unfold World.cell?; simp only [Nat.zero_add]; rw [hh]; rfl
    | succ j => simp at hv
  rw [run_bytesToString _ _ 1 1 [n] hload]
  rfl
theorem tu214 : Try.prog.underlying 214 = some (.slice 5) := by kernel_rfl
theorem tu5 : Try.prog.underlying 5 = some (.int .u8) := by kernel_rfl
theorem tu9 : Try.prog.underlying 9 = some .string := by kernel_rfl
/-- The digits of a number ahead of others. -/
def mtl : Nat → Nat → List UInt8 → List UInt8
  | 0, _, s => s
  | f + 1, n, s => if n = 0 then s else mtl f (n / 10) ((48 + UInt8.ofNat (n % 10)) :: s)
/-- The letter m followed by a number's digits. -/
def mtB (k : Nat) : List UInt8 := 109 :: mtl k k []
theorem push_front (x : UInt8) (l : List UInt8) : ({ data := #[x] } : ByteArray) ++ ⟨l.toArray⟩ = ⟨(x :: l).toArray⟩ := by
  apply ByteArray.ext
  simp
theorem mt_walk (k0 : Nat) (hk : 0 < k0) (hk2 : k0 ≤ 1000000000) (w : World) : Calls Try.prog 202 #[.int .i64 (k0 : Nat)] w fun e w' => e = .returned (.string ⟨(mtB k0).toArray⟩) ∧ Below w.heap.size w w' := by
  go_enter Try.func202, Try.ntmps202
  go_wp2
  rename_i hQ
  rw [decide_eq_false (show ¬ k0 = 0 by omega)]
  go_loopw [0, 3] (fun k o wr => ∃ (n f : Nat) (l : List UInt8), k = .int .i64 n ∧ o = .string ⟨l.toArray⟩ ∧ n ≤ f ∧ mtl f n l = mtl k0 k0 [] ∧ l.length + n ≤ 1000000000 ∧ Below w.heap.size w wr) (fun k _ _ => (intOf k).toNat)
  case atStart => exact ⟨k0, k0, [], rfl, rfl, Nat.le_refl _, rfl, by simpa using hk2, Below.refl _ _⟩
  case round =>
    obtain ⟨n, f, l, rfl, rfl, hf, hmt, hsz, hbel⟩ := hrel
    have hsz2 : (⟨l.toArray⟩ : ByteArray).size + n ≤ 1000000000 := by simpa [ByteArray.size] using hsz
    go_wp2
    · rename_i hn K1 hK1 K2 hK2
      rw [conv_bytes tu214 tu5 tu9]
      simp only [Result.andThen_ok, Oper.upon]
      refine hK2 _ _ ?_
      clear hK2
      go_wp2
      go_roundw
      case rel =>
        obtain ⟨f', rfl⟩ : ∃ f', f = f' + 1 := ⟨f - 1, by omega⟩
        refine ⟨n / 10, f', (48 + UInt8.ofNat (n % 10)) :: l, by go_num, ?_, by omega, ?_, by simp; omega, hbel.alloc (Nat.le_trans hbel.size (Nat.le_refl _)) _⟩
        · rw [push_front]
        · rw [← hmt]
          simp only [mtl]
          rw [if_neg (by omega)]
      case measure => simp [intOf]; omega
    · go_ret
      have hn0 : n = 0 := by omega
      subst hn0
      refine ⟨?_, hbel⟩
      have : mtl f 0 l = l := by cases f <;> simp [mtl]
      rw [this] at hmt
      rw [push_front, mtB, ← hmt]
      rfl
end Go.Proofs.Ytamljpeicecbjaa.Leaf
namespace Go.Proofs.Ytamljpeicecbjaa.Leaf
open Go.RowKit
set_option linter.unusedVariables false
set_option linter.unusedSimpArgs false
set_option maxRecDepth 100000
/-- A world in which one block has been written to and new ones made. -/
structure Keeps (g : Nat) (w w' : World) : Prop where
  os : w'.os = w.os
  tape : w'.tape = w.tape
  output : w'.output = w.output
  size : w.heap.size ≤ w'.heap.size
  block : ∀ k, k < w.heap.size → k ≠ g → w'.heap[k]? = w.heap[k]?
theorem Keeps.refl (g : Nat) (w : World) : Keeps g w w := ⟨rfl, rfl, rfl, Nat.le_refl _, fun _ _ _ => rfl⟩
theorem Keeps.below {g : Nat} {w w1 w2 : World} (h : Keeps g w w1) (k : Below w1.heap.size w1 w2) : Keeps g w w2 :=
  ⟨k.os.trans h.os, k.tape.trans h.tape, k.output.trans h.output, Nat.le_trans h.size k.size, fun i hi hne => (k.block i (Nat.lt_of_lt_of_le hi h.size)).trans (h.block i hi hne)⟩
theorem Keeps.setRow {g : Nat} {w w1 : World} (h : Keeps g w w1) (cs : Array Value) : Keeps g w (w1.setRow g cs) :=
  ⟨h.os, h.tape, h.output, by simpa [World.setRow] using h.size, fun i hi hne => by
    simp only [World.setRow, Array.getElem?_modify]
    rw [if_neg (by omega)]
    exact h.block i hi hne⟩
theorem sz9 : Go.Sx.szT Try.prog 9 = some 1 := by kernel_rfl
theorem sz22 : Go.Sx.szT Try.prog 22 = some 1 := by kernel_rfl
theorem sz2 : Go.Sx.szT Try.prog 2 = some 1 := by kernel_rfl
theorem sz54 : Go.Sx.szT Try.prog 54 = some 1 := by kernel_rfl
/-- The first p cells of a block are marked. -/
structure Mk (g : Nat) (e : TypeId) (w wr : World) (arr0 : Array Value) (mv : Nat → Value) (p : Nat) : Prop where
  ex : ∃ arr, wr.heap[g]? = some (.cells arr e (0, 0)) ∧ arr.size = arr0.size ∧ (∀ i, i < p → arr[i]? = some (mv i)) ∧ (∀ i, p ≤ i → arr[i]? = arr0[i]?)
  keeps : Keeps g w wr
theorem Mk.store {g p : Nat} {e t : TypeId} {w wr : World} {arr0 : Array Value} {mv : Nat → Value} (h : Mk g e w wr arr0 mv p) (hn : Go.Sx.szT Try.prog t = some 1) (h1 : (mv p).oneCell' = true) (hp : p < arr0.size) : ∃ w', (storeVar t ⟨g, p, none⟩ (mv p)).run Try.prog wr = .ok () w' ∧ Mk g e w w' arr0 mv (p + 1) := by
  obtain ⟨⟨arr, hg, hs, hm, hr⟩, hk⟩ := h
  have hc := Go.Sx.one_cells h1
  have e1 : (arr.toList.take p ++ (mv p).cells.toList ++ arr.toList.drop (p + 1)) = arr.toList.set p (mv p) := by
    rw [hc, List.set_eq_take_append_cons_drop]
    rw [if_pos (by simp; omega)]
    simp
  have h2 := Go.Sx.storeVar_run (arr := arr) (o := p) (e := e) (v := mv p) hn (by rw [hc]; rfl) (by rw [hc]; simp [h1]) hg (by omega)
  rw [e1] at h2
  refine ⟨_, h2, ⟨_, setRow_heap _ _ arr _ _ _ hg, by simp [hs], fun i hi => ?_, fun i hi => ?_⟩, hk.setRow _⟩
  · rw [List.getElem?_toArray, List.getElem?_set]
    by_cases hip : p = i
    · subst hip
      rw [if_pos rfl, if_pos (by simp; omega)]
    · rw [if_neg hip, Array.getElem?_toList]
      exact hm i (by omega)
  · rw [List.getElem?_toArray, List.getElem?_set, if_neg (by omega), Array.getElem?_toList]
    exact hr i (by omega)
theorem Mk.below {g p : Nat} {e : TypeId} {w w1 w2 : World} {arr0 : Array Value} {mv : Nat → Value} (h : Mk g e w w1 arr0 mv p) (k : Below w1.heap.size w1 w2) : Mk g e w w2 arr0 mv p := by
  obtain ⟨⟨arr, hg, hs⟩, hk⟩ := h
  exact ⟨⟨arr, (k.block _ (Array.getElem?_eq_some_iff.1 hg).1).trans hg, hs⟩, hk.below k⟩
theorem wpList_mk {ops : Array Oper} {rest : List Oper} {o : Oper} {a : Act} {Q : Exit → Act → World → Prop} {g p off : Nat} {e : TypeId} {w wr : World} {arr0 : Array Value} {mv : Nat → Value} (hM : Hid (Mk g e w wr arr0 mv p))
    (hg : o.guard = none) (x y : Operand) (t : TypeId) (hop : o.op = Op.store t x y) (hx : a.eval x = .pointer (some ⟨g, off, none⟩)) (ho : off = p) {v : Value} (hy : a.eval y = v) (hv : v = mv p) (hn : Go.Sx.szT Try.prog t = some 1) (h1 : v.oneCell' = true) (hp : p < arr0.size)
    (hK : ∀ w', Hid (Mk g e w w' arr0 mv (p + 1)) → wpList Try.prog ops Q rest (a.put o.dst undef) w') : wpList Try.prog ops Q (o :: rest) a wr := by
  subst hv; subst ho
  obtain ⟨w', h2, h3⟩ := hM.out.store hn h1 hp
  exact wpList_store _ _ hg x y t hop _ hx _ hy h2 (hK _ h3)
theorem tu3 : Try.prog.underlying 3 = some (.int .i64) := by kernel_rfl
theorem tu22 : Try.prog.underlying 22 = some (.float .f32) := by kernel_rfl
theorem tu2 : Try.prog.underlying 2 = some (.int .i64) := by kernel_rfl
theorem tu54 : Try.prog.underlying 54 = some (.int .i16) := by kernel_rfl
theorem conv_if (n : Int) (w : World) : (convert 3 22 (.int .i64 n)).run Try.prog w = .ok (.float .f32 (FloatKind.f32.nearest n)) w := by
  simp only [convert, Sem.run_bind, run_underlying tu3, run_underlying tu22, Result.andThen_ok]
  rfl
theorem conv_ii (n : Int) (w : World) : (convert 3 2 (.int .i64 n)).run Try.prog w = .ok (.int .i64 (IntKind.i64.wrap n)) w := by
  simp only [convert, Sem.run_bind, run_underlying tu3, run_underlying tu2, Result.andThen_ok]
  rfl
theorem conv_is (n : Int) (w : World) : (convert 3 54 (.int .i64 n)).run Try.prog w = .ok (.int .i16 (IntKind.i16.wrap n)) w := by
  simp only [convert, Sem.run_bind, run_underlying tu3, run_underlying tu54, Result.andThen_ok]
  rfl
/-- The marks: in pigments, in floats, in drops. -/
def mvP (i : Nat) : Value := if i % 34 = 0 then .string ⟨(mtB (i + 1)).toArray⟩ else if i % 34 = 33 then .int .i64 ((i + 1 : Nat) : Int) else .float .f32 (FloatKind.f32.nearest ((i + 1 : Nat) : Int))
def mvF (i : Nat) : Value := .float .f32 (FloatKind.f32.nearest ((i + 1 : Nat) : Int))
def mvD (i : Nat) : Value := .int .i16 (IntKind.i16.wrap ((i + 1 : Nat) : Int))
theorem mvP_s (k : Nat) : mvP (34 * k) = .string ⟨(mtB (34 * k + 1)).toArray⟩ := by unfold mvP; rw [if_pos (by omega)]
theorem mvP_i (k : Nat) : mvP (34 * k + 33) = .int .i64 ((34 * k + 33 + 1 : Nat) : Int) := by unfold mvP; rw [if_neg (by omega), if_pos (by omega)]
theorem mvP_f {i : Nat} (h1 : i % 34 ≠ 0) (h2 : i % 34 ≠ 33) : mvP i = .float .f32 (FloatKind.f32.nearest ((i + 1 : Nat) : Int)) := by unfold mvP; rw [if_neg h1, if_neg h2]
theorem mvP_fe {i : Nat} {n : Int} (h : n = ((i + 1 : Nat) : Int)) (h1 : i % 34 ≠ 0) (h2 : i % 34 ≠ 33) : Value.float .f32 (FloatKind.f32.nearest n) = mvP i := by rw [mvP_f h1 h2, h]
theorem mvP_ie (k : Nat) {n : Int} (h : n = ((34 * k + 33 + 1 : Nat) : Int)) : Value.int .i64 n = mvP (34 * k + 33) := by rw [mvP_i, h]
theorem mk_at {g p q : Nat} {e : TypeId} {w wr : World} {arr0 : Array Value} {mv : Nat → Value} (h : Hid (Mk g e w wr arr0 mv p)) (hq : p = q) : Hid (Mk g e w wr arr0 mv q) := hq ▸ h
set_option maxHeartbeats 2000000 in
theorem markP_walk (g len cap : Nat) (w : World) (e : TypeId) (arr : Array Value) (hg : w.heap[g]? = some (.cells arr e (0, 0))) (hs : len * 34 ≤ arr.size) (hlen : len ≤ cap) (hm : len ≤ 1048576) :
    Calls Try.prog 163 #[.slice (some ⟨g, 0, none⟩) len cap, .int .i64 1] w fun e1 w' => e1 = .returned (.int .i64 (1 + 34 * len)) ∧ Mk g e w w' arr mvP (34 * len) := by
  have H0 : Hid (Mk g e w w arr mvP (34 * 0)) := ⟨⟨arr, hg, rfl, fun i hi => by omega, fun _ _ => rfl⟩, Keeps.refl _ _⟩
  clear hg
  go_enter Try.func163, Try.ntmps163
  go_wp2
  go_loopw [1, 5] (fun kk i wr => ∃ (k : Nat), k ≤ len ∧ i = .int .i64 k ∧ kk = .int .i64 (34 * k + 1 : Nat) ∧ Hid (Mk g e w wr arr mvP (34 * k))) (fun _ i _ => len - (intOf i).toNat)
  case atStart => exact ⟨0, Nat.zero_le _, rfl, rfl, H0⟩
  case round =>
    obtain ⟨k, hk, rfl, rfl, HM⟩ := hrel
    go_wp2_with (first | (refine wpList_mk HM2 rfl _ _ 9 rfl rfl (by omega) rfl (mvP_s k).symm sz9 rfl (by omega) ?_; intro w3 HM3) | (go_at_call 202; refine (mt_walk (34 * k + 1) (by omega) (by omega) _).mono ?_; rintro e' w' ⟨rfl, hb'⟩; have HM2 : Hid (Mk g e w w' arr mvP (34 * k)) := HM.out.below hb') | go_in)
    · go_loopw [1, 6] (fun kk i wr => ∃ (q : Nat), q ≤ 16 ∧ i = .int .i64 q ∧ kk = .int .i64 (34 * k + 2 + q : Nat) ∧ Hid (Mk g e w wr arr mvP (34 * k + 1 + q))) (fun _ i _ => 16 - (intOf i).toNat)
      case atStart => exact ⟨0, Nat.zero_le _, rfl, by go_num, HM3⟩
      case round =>
        obtain ⟨q, hq, rfl, rfl, HMq⟩ := hrel
        go_wp2_with (first | (refine wpList_conv _ rfl _ 3 22 rfl _ (conv_if _ _) ?_) | (refine wpList_mk HMq rfl _ _ 22 rfl rfl (by omega) rfl (mvP_fe (by omega) (by omega) (by omega)) sz22 rfl (by omega) ?_; intro w4 HM4) | go_in)
        · go_roundw
          case rel => exact ⟨q + 1, by omega, by go_num, by go_num, HM4⟩
          case measure => simp [intOf]; omega
        · go_loopw [1, 7] (fun kk i wr => ∃ (q : Nat), q ≤ 16 ∧ i = .int .i64 q ∧ kk = .int .i64 (34 * k + 18 + q : Nat) ∧ Hid (Mk g e w wr arr mvP (34 * k + 17 + q))) (fun _ i _ => 16 - (intOf i).toNat)
          case atStart => exact ⟨0, Nat.zero_le _, rfl, by go_num, mk_at HMq (by omega)⟩
          case round =>
            obtain ⟨q2, hq2, rfl, rfl, HMr⟩ := hrel
            go_wp2_with (first | (refine wpList_conv _ rfl _ 3 22 rfl _ (conv_if _ _) ?_) | (refine wpList_mk HMr rfl _ _ 22 rfl rfl (by omega) rfl (mvP_fe (by omega) (by omega) (by omega)) sz22 rfl (by omega) ?_; intro w4 HM4) | (refine wpList_mk (p := 34 * k + 33) (mk_at HMr (by omega)) rfl _ _ 2 rfl rfl (by omega) rfl (mvP_ie k (by omega)) sz2 rfl (by omega) ?_; intro w4 HM4) | go_in)
            · go_roundw
              case rel => exact ⟨q2 + 1, by omega, by go_num, by go_num, HM4⟩
              case measure => simp [intOf]; omega
            · go_roundw
              case rel => exact ⟨k + 1, by omega, by go_num, by go_num, HM4⟩
              case measure => simp [intOf]; omega
    · go_ret
      have hkl : k = len := by omega
      subst hkl
      exact ⟨by simp; omega, HM.out⟩
theorem mvF_e {i : Nat} {n : Int} (h : n = ((i + 1 : Nat) : Int)) : Value.float .f32 (FloatKind.f32.nearest n) = mvF i := by unfold mvF; rw [h]
theorem mvD_e {i : Nat} {n : Int} (h : n = ((i + 1 : Nat) : Int)) : Value.int .i16 (IntKind.i16.wrap n) = mvD i := by unfold mvD; rw [h]
set_option maxHeartbeats 2000000 in
theorem markC_walk (g len cap : Nat) (w : World) (e : TypeId) (arr : Array Value) (hg : w.heap[g]? = some (.cells arr e (0, 0))) (hs : len * 16 ≤ arr.size) (hlen : len ≤ cap) (hm : len ≤ 1048576) :
    Calls Try.prog 99 #[.slice (some ⟨g, 0, none⟩) len cap, .int .i64 1] w fun e1 w' => e1 = .returned (.int .i64 (1 + 16 * len)) ∧ Mk g e w w' arr mvF (16 * len) := by
  have H0 : Hid (Mk g e w w arr mvF (16 * 0)) := ⟨⟨arr, hg, rfl, fun i hi => by omega, fun _ _ => rfl⟩, Keeps.refl _ _⟩
  clear hg
  go_enter Try.func99, Try.ntmps99
  go_wp2
  go_loopw [1, 5] (fun kk i wr => ∃ (k : Nat), k ≤ len ∧ i = .int .i64 k ∧ kk = .int .i64 (16 * k + 1 : Nat) ∧ Hid (Mk g e w wr arr mvF (16 * k))) (fun _ i _ => len - (intOf i).toNat)
  case atStart => exact ⟨0, Nat.zero_le _, rfl, rfl, H0⟩
  case round =>
    obtain ⟨k, hk, rfl, rfl, HM⟩ := hrel
    go_wp2
    · have hkl : k < len := by assumption
      rw [decide_eq_true hkl]
      go_loopw [1, 6] (fun kk i wr => ∃ (q : Nat), q ≤ 16 ∧ i = .int .i64 q ∧ kk = .int .i64 (16 * k + 1 + q : Nat) ∧ Hid (Mk g e w wr arr mvF (16 * k + q))) (fun _ i _ => 16 - (intOf i).toNat)
      case atStart => exact ⟨0, Nat.zero_le _, rfl, by go_num, HM⟩
      case round =>
        obtain ⟨q, hq, rfl, rfl, HMq⟩ := hrel
        go_wp2_with (first | (refine wpList_conv _ rfl _ 3 22 rfl _ (conv_if _ _) ?_) | (refine wpList_mk HMq rfl _ _ 22 rfl rfl (by omega) rfl (mvF_e (by omega)) sz22 rfl (by omega) ?_; intro w4 HM4) | go_in)
        · go_roundw
          case rel => exact ⟨q + 1, by omega, by go_num, by go_num, HM4⟩
          case measure => simp [intOf]; omega
        · go_roundw
          case rel => exact ⟨k + 1, by omega, by go_num, by go_num, mk_at HMq (by omega)⟩
          case measure => simp [intOf]; omega
    · go_ret
      have hkl : k = len := by omega
      subst hkl
      exact ⟨by simp; omega, HM.out⟩
set_option maxHeartbeats 2000000 in
theorem markD_walk (g len cap : Nat) (w : World) (e : TypeId) (arr : Array Value) (hg : w.heap[g]? = some (.cells arr e (0, 0))) (hs : len * 6 ≤ arr.size) (hlen : len ≤ cap) (hm : len ≤ 1048576) :
    Calls Try.prog 83 #[.slice (some ⟨g, 0, none⟩) len cap, .int .i64 1] w fun e1 w' => e1 = .returned (.int .i64 (1 + 6 * len)) ∧ Mk g e w w' arr mvD (6 * len) := by
  have H0 : Hid (Mk g e w w arr mvD (6 * 0)) := ⟨⟨arr, hg, rfl, fun i hi => by omega, fun _ _ => rfl⟩, Keeps.refl _ _⟩
  clear hg
  go_enter Try.func83, Try.ntmps83
  go_wp2
  go_loopw [1, 5] (fun kk i wr => ∃ (k : Nat), k ≤ len ∧ i = .int .i64 k ∧ kk = .int .i64 (6 * k + 1 : Nat) ∧ Hid (Mk g e w wr arr mvD (6 * k))) (fun _ i _ => len - (intOf i).toNat)
  case atStart => exact ⟨0, Nat.zero_le _, rfl, rfl, H0⟩
  case round =>
    obtain ⟨k, hk, rfl, rfl, HM⟩ := hrel
    go_wp2
    · have hkl : k < len := by assumption
      rw [decide_eq_true hkl]
      go_loopw [1, 6] (fun kk i wr => ∃ (q : Nat), q ≤ 6 ∧ i = .int .i64 q ∧ kk = .int .i64 (6 * k + 1 + q : Nat) ∧ Hid (Mk g e w wr arr mvD (6 * k + q))) (fun _ i _ => 6 - (intOf i).toNat)
      case atStart => exact ⟨0, Nat.zero_le _, rfl, by go_num, HM⟩
      case round =>
        obtain ⟨q, hq, rfl, rfl, HMq⟩ := hrel
        go_wp2_with (first | (refine wpList_conv _ rfl _ 3 54 rfl _ (conv_is _ _) ?_) | (refine wpList_mk HMq rfl _ _ 54 rfl rfl (by omega) rfl (mvD_e (by omega)) sz54 rfl (by omega) ?_; intro w4 HM4) | go_in)
        · go_roundw
          case rel => exact ⟨q + 1, by omega, by go_num, by go_num, HM4⟩
          case measure => simp [intOf]; omega
        · go_roundw
          case rel => exact ⟨k + 1, by omega, by go_num, by go_num, mk_at HMq (by omega)⟩
          case measure => simp [intOf]; omega
    · go_ret
      have hkl : k = len := by omega
      subst hkl
      exact ⟨by simp; omega, HM.out⟩
set_option maxHeartbeats 2000000 in
theorem markF_walk (g len cap : Nat) (w : World) (e : TypeId) (arr : Array Value) (hg : w.heap[g]? = some (.cells arr e (0, 0))) (hs : len * 1 ≤ arr.size) (hlen : len ≤ cap) (hm : len ≤ 1048576) :
    Calls Try.prog 100 #[.slice (some ⟨g, 0, none⟩) len cap, .int .i64 1] w fun e1 w' => e1 = .returned (.int .i64 (1 + 1 * len)) ∧ Mk g e w w' arr mvF (1 * len) := by
  have H0 : Hid (Mk g e w w arr mvF 0) := ⟨⟨arr, hg, rfl, fun i hi => by omega, fun _ _ => rfl⟩, Keeps.refl _ _⟩
  clear hg
  go_enter Try.func100, Try.ntmps100
  go_wp2
  go_loopw [1, 5] (fun kk i wr => ∃ (k : Nat), k ≤ len ∧ i = .int .i64 k ∧ kk = .int .i64 (k + 1 : Nat) ∧ Hid (Mk g e w wr arr mvF k)) (fun _ i _ => len - (intOf i).toNat)
  case atStart => exact ⟨0, Nat.zero_le _, rfl, rfl, H0⟩
  case round =>
    obtain ⟨k, hk, rfl, rfl, HM⟩ := hrel
    go_wp2_with (first | (refine wpList_conv _ rfl _ 3 22 rfl _ (conv_if _ _) ?_) | (refine wpList_mk HM rfl _ _ 22 rfl rfl (by omega) rfl (mvF_e (by omega)) sz22 rfl (by omega) ?_; intro w4 HM4) | go_in)
    · go_roundw
      case rel => exact ⟨k + 1, by omega, by go_num, by go_num, HM4⟩
      case measure => simp [intOf]; omega
    · go_ret
      have hkl : k = len := by omega
      subst hkl
      exact ⟨by simp; omega, by rw [Nat.one_mul]; exact HM.out⟩
end Go.Proofs.Ytamljpeicecbjaa.Leaf
namespace Go.Proofs.Ytamljpeicecbjaa.Leaf
open Go.RowKit
set_option linter.unusedVariables false
set_option linter.unusedSimpArgs false
set_option maxRecDepth 100000
theorem ag9 : Go.Sx.aggT Try.prog 9 = some false := by kernel_rfl
theorem ag22 : Go.Sx.aggT Try.prog 22 = some false := by kernel_rfl
theorem ag2 : Go.Sx.aggT Try.prog 2 = some false := by kernel_rfl
theorem ag54 : Go.Sx.aggT Try.prog 54 = some false := by kernel_rfl
/-- The first cells behind a slice are marks. -/
def Held (b off n : Nat) (mv : Nat → Value) (w : World) : Prop := b < w.heap.size ∧ ∀ i, i < n → w.cell? ⟨b, off + i, none⟩ = some (mv i)
theorem Held.below {b off n : Nat} {mv : Nat → Value} {w w' : World} (h : Held b off n mv w) (k : Below w.heap.size w w') : Held b off n mv w' :=
  ⟨Nat.lt_of_lt_of_le h.1 k.size, fun i hi => (k.cell (p := ⟨b, off + i, none⟩) h.1).trans (h.2 i hi)⟩
theorem wpList_ld {ops : Array Oper} {rest : List Oper} {o : Oper} {a : Act} {Q : Exit → Act → World → Prop} {b off n p ad : Nat} {mv : Nat → Value} {w wr : World} (hH : Hid (Held b off n mv w)) (hbel : Below w.heap.size w wr)
    (hg : o.guard = none) (x : Operand) (t : TypeId) (hop : o.op = Op.load t x) (hx : a.eval x = .pointer (some ⟨b, ad, none⟩)) (ha : Go.Sx.aggT Try.prog t = some false) (hp : ad = off + p) (hn : p < n) {v : Value} (hv : mv p = v)
    (hK : wpList Try.prog ops Q rest (a.put o.dst v) wr) : wpList Try.prog ops Q (o :: rest) a wr := by
  subst hp; subst hv
  have hc := (hH.out.below hbel).2 p hn
  exact wpList_load _ hg x t hop _ hx _ (by unfold loadVar; simp [Go.Sx.aggT_run ha, hc]) hK
theorem wpList_neq {P : Program} (w : World) {ops : Array Oper} {rest : List Oper} {o : Oper} {a : Act} {Q : Exit → Act → World → Prop}
    (hg : o.guard = none) (x y : Operand) (t ty : TypeId) (hop : o.op = Op.binOp .neq t x y ty) {v : Value} (hx : a.eval x = v) (hy : a.eval y = v) (h1 : (eqGuard .neq t x y v v).run P w = .ok () w) (h2 : (binOp .neq t v v).run P w = .ok (.bool false) w)
    (hK : wpList P ops Q rest (a.put o.dst (.bool false)) w) : wpList P ops Q (o :: rest) a w := by
  refine wpList_plain hg fun K hK' => ?_
  unfold Oper.wp
  simp [execOp, hop, hx, hy, h1, h2]
  exact hK' _ _ hK
theorem neq_f (n : Int) (t : TypeId) (P : Program) (w : World) : (binOp .neq t (.float .f32 (FloatKind.f32.nearest n)) (.float .f32 (FloatKind.f32.nearest n))).run P w = .ok (.bool false) w := by
  have hb : binOp .neq t (.float .f32 (FloatKind.f32.nearest n)) (.float .f32 (FloatKind.f32.nearest n)) = Op.floatCmp .neq .f32 (FloatKind.f32.nearest n) (FloatKind.f32.nearest n) := by simp [binOp]
  rw [hb]
  have hs := Go.Sx.F.eq_self .f32 (FloatKind.f32.nearest n)
  rw [show Go.Sx.isNan .f32 (FloatKind.f32.nearest n) = false from Go.Sx.write_notNan .f32 (.number (decide (n < 0)) n.natAbs 0) rfl] at hs
  show Result.ok (Value.bool (!(FloatKind.f32.format.order (FloatKind.f32.nearest n) (FloatKind.f32.nearest n) == some .eq))) w = _
  unfold Go.Sx.F.eq at hs
  rw [hs]; rfl
theorem neq_s (l : List UInt8) (t : TypeId) (P : Program) (w : World) : (binOp .neq t (.string ⟨l.toArray⟩) (.string ⟨l.toArray⟩)).run P w = .ok (.bool false) w := by
  have hb : binOp .neq t (.string ⟨l.toArray⟩) (.string ⟨l.toArray⟩) = Op.stringOp .neq ⟨l.toArray⟩ ⟨l.toArray⟩ := by simp [binOp]
  rw [hb]
  show Result.ok (Value.bool (!((⟨l.toArray⟩ : ByteArray).toList == (⟨l.toArray⟩ : ByteArray).toList))) w = _
  rw [Go.Sx.bytes_eq]; simp
set_option maxHeartbeats 2000000 in
theorem heldF_walk (b off len cap : Nat) (w : World) (hh : Held b off (1 * len) mvF w) (hm : len ≤ 1048576) :
    Calls Try.prog 101 #[.slice (some ⟨b, off, none⟩) len cap, .int .i64 1] w fun e1 w' => e1 = .returned (.int .i64 (1 + 1 * len)) ∧ Below w.heap.size w w' := by
  have H0 : Hid (Held b off (1 * len) mvF w) := hh
  clear hh
  go_enter Try.func101, Try.ntmps101
  go_wp2
  go_loopw [1, 5] (fun kk i wr => ∃ (k : Nat), k ≤ len ∧ i = .int .i64 k ∧ kk = .int .i64 (k + 1 : Nat) ∧ Below w.heap.size w wr) (fun _ i _ => len - (intOf i).toNat)
  case atStart => exact ⟨0, Nat.zero_le _, rfl, rfl, Below.refl _ _⟩
  case round =>
    obtain ⟨k, hk, rfl, rfl, hbel⟩ := hrel
    go_wp2_with (first | (refine wpList_conv _ rfl _ 3 22 rfl _ (conv_if _ _) ?_) | (refine wpList_ld (p := k) H0 hbel rfl _ 22 rfl rfl ag22 (by omega) (by omega) (mvF_e (n := k + 1) (by omega)).symm ?_) | (refine wpList_neq _ rfl _ _ 22 22 rfl rfl rfl rfl (neq_f _ _ _ _) ?_) | go_in)
    · go_roundw
      case rel => exact ⟨k + 1, by omega, by go_num, by go_num, hbel⟩
      case measure => simp [intOf]; omega
    · go_ret
      have hkl : k = len := by omega
      subst hkl
      exact ⟨by simp; omega, hbel⟩
set_option maxHeartbeats 4000000 in
theorem heldC_walk (b off len cap : Nat) (w : World) (hh : Held b off (16 * len) mvF w) (hm : len ≤ 1048576) :
    Calls Try.prog 109 #[.slice (some ⟨b, off, none⟩) len cap, .int .i64 1] w fun e1 w' => e1 = .returned (.int .i64 (1 + 16 * len)) ∧ Below w.heap.size w w' := by
  have H0 : Hid (Held b off (16 * len) mvF w) := hh
  clear hh
  go_enter Try.func109, Try.ntmps109
  go_wp2
  go_loopw [1, 5] (fun kk i wr => ∃ (k : Nat), k ≤ len ∧ i = .int .i64 k ∧ kk = .int .i64 (16 * k + 1 : Nat) ∧ Below w.heap.size w wr) (fun _ i _ => len - (intOf i).toNat)
  case atStart => exact ⟨0, Nat.zero_le _, rfl, rfl, Below.refl _ _⟩
  case round =>
    obtain ⟨k, hk, rfl, rfl, hbel⟩ := hrel
    go_wp2
    · have hkl : k < len := by assumption
      rw [decide_eq_true hkl]
      go_loopw [1, 6] (fun kk i wr => ∃ (q : Nat), q ≤ 16 ∧ i = .int .i64 q ∧ kk = .int .i64 (16 * k + 1 + q : Nat) ∧ Below w.heap.size w wr) (fun _ i _ => 16 - (intOf i).toNat)
      case atStart => exact ⟨0, Nat.zero_le _, rfl, by go_num, hbel⟩
      case round =>
        obtain ⟨q, hq, rfl, rfl, hbq⟩ := hrel
        go_wp2_with (first | (refine wpList_conv _ rfl _ 3 22 rfl _ (conv_if _ _) ?_) | (refine wpList_ld (p := 16 * k + q) H0 hbq rfl _ 22 rfl rfl ag22 (by omega) (by omega) (mvF_e (n := 16 * k + 1 + q) (by omega)).symm ?_) | (refine wpList_neq _ rfl _ _ 22 22 rfl rfl rfl rfl (neq_f _ _ _ _) ?_) | go_in)
        · go_roundw
          case rel => exact ⟨q + 1, by omega, by go_num, by go_num, hbq⟩
          case measure => simp [intOf]; omega
        · go_roundw
          case rel => exact ⟨k + 1, by omega, by go_num, by go_num, hbq⟩
          case measure => simp [intOf]; omega
    · go_ret
      have hkl : k = len := by omega
      subst hkl
      exact ⟨by simp; omega, hbel⟩
theorem neq_i (k : IntKind) (n : Int) (t : TypeId) (P : Program) (w : World) : (binOp .neq t (.int k n) (.int k n)).run P w = .ok (.bool false) w := by
  have hb : binOp .neq t (.int k n) (.int k n) = pure (.bool (n != n)) := by
    cases k <;> rfl
  rw [hb]
  simp
set_option maxHeartbeats 4000000 in
theorem heldD_walk (b off len cap : Nat) (w : World) (hh : Held b off (6 * len) mvD w) (hm : len ≤ 1048576) :
    Calls Try.prog 84 #[.slice (some ⟨b, off, none⟩) len cap, .int .i64 1] w fun e1 w' => e1 = .returned (.int .i64 (1 + 6 * len)) ∧ Below w.heap.size w w' := by
  have H0 : Hid (Held b off (6 * len) mvD w) := hh
  clear hh
  go_enter Try.func84, Try.ntmps84
  go_wp2
  go_loopw [1, 5] (fun kk i wr => ∃ (k : Nat), k ≤ len ∧ i = .int .i64 k ∧ kk = .int .i64 (6 * k + 1 : Nat) ∧ Below w.heap.size w wr) (fun _ i _ => len - (intOf i).toNat)
  case atStart => exact ⟨0, Nat.zero_le _, rfl, rfl, Below.refl _ _⟩
  case round =>
    obtain ⟨k, hk, rfl, rfl, hbel⟩ := hrel
    go_wp2
    · have hkl : k < len := by assumption
      rw [decide_eq_true hkl]
      go_loopw [1, 6] (fun kk i wr => ∃ (q : Nat), q ≤ 6 ∧ i = .int .i64 q ∧ kk = .int .i64 (6 * k + 1 + q : Nat) ∧ Below w.heap.size w wr) (fun _ i _ => 6 - (intOf i).toNat)
      case atStart => exact ⟨0, Nat.zero_le _, rfl, by go_num, hbel⟩
      case round =>
        obtain ⟨q, hq, rfl, rfl, hbq⟩ := hrel
        go_wp2_with (first | (refine wpList_conv _ rfl _ 3 54 rfl _ (conv_is _ _) ?_) | (refine wpList_ld (p := 6 * k + q) H0 hbq rfl _ 54 rfl rfl ag54 (by omega) (by omega) (mvD_e (n := 6 * k + 1 + q) (by omega)).symm ?_) | (refine wpList_neq _ rfl _ _ 54 54 rfl rfl rfl rfl (neq_i _ _ _ _ _) ?_) | go_in)
        · go_roundw
          case rel => exact ⟨q + 1, by omega, by go_num, by go_num, hbq⟩
          case measure => simp [intOf]; omega
        · go_roundw
          case rel => exact ⟨k + 1, by omega, by go_num, by go_num, hbq⟩
          case measure => simp [intOf]; omega
    · go_ret
      have hkl : k = len := by omega
      subst hkl
      exact ⟨by simp; omega, hbel⟩
theorem mvP_se (k : Nat) {n : Nat} (h : n = 34 * k + 1) : mvP (34 * k) = .string ⟨(mtB n).toArray⟩ := by rw [mvP_s, h]
set_option maxHeartbeats 8000000 in
theorem heldP_walk (b off len cap : Nat) (w : World) (hh : Held b off (34 * len) mvP w) (hm : len ≤ 1048576) :
    Calls Try.prog 164 #[.slice (some ⟨b, off, none⟩) len cap, .int .i64 1] w fun e1 w' => e1 = .returned (.int .i64 (1 + 34 * len)) ∧ Below w.heap.size w w' := by
  have H0 : Hid (Held b off (34 * len) mvP w) := hh
  clear hh
  go_enter Try.func164, Try.ntmps164
  go_wp2
  go_loopw [1, 5] (fun kk i wr => ∃ (k : Nat), k ≤ len ∧ i = .int .i64 k ∧ kk = .int .i64 (34 * k + 1 : Nat) ∧ Below w.heap.size w wr) (fun _ i _ => len - (intOf i).toNat)
  case atStart => exact ⟨0, Nat.zero_le _, rfl, rfl, Below.refl _ _⟩
  case round =>
    obtain ⟨k, hk, rfl, rfl, hbel⟩ := hrel
    go_wp2
    · have hkl : k < len := by assumption
      have hc : ∀ w2, Below w.heap.size w w2 → w2.cell? ⟨b, off + k * 34, none⟩ = some (.string ⟨(mtB (34 * k + 1)).toArray⟩) := fun w2 hb2 => by
        have := (H0.out.below hb2).2 (34 * k) (by omega)
        rw [mvP_s] at this
        rw [show off + k * 34 = off + 34 * k by omega]; exact this
      have HC : Hid (∀ w2, Below w.heap.size w w2 → w2.cell? ⟨b, off + k * 34, none⟩ = some (.string ⟨(mtB (34 * k + 1)).toArray⟩)) := hc
      clear hc
      go_region_held (fun w' => w'.cell? ⟨b, off + k * 34, none⟩ = some (.string ⟨(mtB (34 * k + 1)).toArray⟩) ∧ Below w.heap.size w w') (first | exact ⟨HC.out _ hbel.drew, hbel.drew⟩ | exact ⟨HC.out _ (hbel.drew.trans (hb'.mono hbel.drew.size)), hbel.drew.trans (hb'.mono hbel.drew.size)⟩ | assumption)
        (first | (go_at_call 202; refine (mt_walk (34 * k + 1) (by omega) (by omega) _).mono ?_; rintro e' w' ⟨rfl, hb'⟩))
      have hbel2 : Below w.heap.size w w' := hbel.drew.trans (hb'.mono hbel.drew.size)
      clear hbel hb'
      go_wp2
      go_loopw [1, 6] (fun kk i wr => ∃ (q : Nat), q ≤ 16 ∧ i = .int .i64 q ∧ kk = .int .i64 (34 * k + 2 + q : Nat) ∧ Below w.heap.size w wr) (fun _ i _ => 16 - (intOf i).toNat)
      case atStart => exact ⟨0, Nat.zero_le _, rfl, by go_num, hbel2⟩
      case round =>
        obtain ⟨q, hq, rfl, rfl, hbq⟩ := hrel
        go_wp2_with (first | (refine wpList_conv _ rfl _ 3 22 rfl _ (conv_if _ _) ?_) | (refine wpList_ld (p := 34 * k + 1 + q) H0 hbq rfl _ 22 rfl rfl ag22 (by omega) (by omega) (mvP_fe (n := 34 * k + 2 + q) (by omega) (by omega) (by omega)).symm ?_) | (refine wpList_neq _ rfl _ _ 22 22 rfl rfl rfl rfl (neq_f _ _ _ _) ?_) | go_in)
        · go_roundw
          case rel => exact ⟨q + 1, by omega, by go_num, by go_num, hbq⟩
          case measure => simp [intOf]; omega
        · go_loopw [1, 7] (fun kk i wr => ∃ (q : Nat), q ≤ 16 ∧ i = .int .i64 q ∧ kk = .int .i64 (34 * k + 18 + q : Nat) ∧ Below w.heap.size w wr) (fun _ i _ => 16 - (intOf i).toNat)
          case atStart => exact ⟨0, Nat.zero_le _, rfl, by go_num, hbq⟩
          case round =>
            obtain ⟨q2, hq2, rfl, rfl, hbr⟩ := hrel
            go_wp2_with (first | (refine wpList_conv _ rfl _ 3 22 rfl _ (conv_if _ _) ?_) | (refine wpList_ld (p := 34 * k + 17 + q2) H0 hbr rfl _ 22 rfl rfl ag22 (by omega) (by omega) (mvP_fe (n := 34 * k + 18 + q2) (by omega) (by omega) (by omega)).symm ?_) | (refine wpList_ld (p := 34 * k + 33) H0 hbr rfl _ 2 rfl rfl ag2 (by omega) (by omega) (mvP_ie k (n := 34 * k + 18 + q2) (by omega)).symm ?_) | (refine wpList_neq _ rfl _ _ 22 22 rfl rfl rfl rfl (neq_f _ _ _ _) ?_) | go_in)
            · exact ⟨⟨q2 + 1, by omega, by go_num, by go_num, hbr⟩, by simp [intOf]; omega⟩
            · exact ⟨⟨k + 1, by omega, by go_num, by go_num, hbr⟩, by simp [intOf]; omega⟩
    · go_ret
      have hkl : k = len := by omega
      subst hkl
      exact ⟨by simp; omega, hbel⟩
end Go.Proofs.Ytamljpeicecbjaa.Leaf
noncomputable section
namespace Go.Proofs.Ytamljpeicecbjaa.Leaf
open Go.RowKit Go.Sx
set_option linter.unusedVariables false
set_option linter.unusedSimpArgs false
set_option maxRecDepth 100000
theorem Keeps.cell {g : Nat} {w w' : World} (h : Keeps g w w') {p : Addr} (hp : p.block < w.heap.size) (hne : p.block ≠ g) : w'.cell? p = w.cell? p := World.cell?_of_block (h.block _ hp hne)
/-- A block of the call's own stays what it is where another one is written to. -/
theorem ent_keeps {E : Env} {β : Pl} {B g : Nat} {sb : SB} {b : Bs} {w w' : World} (k : Keeps g w w') (hg : b.blk ≠ g) (hr : SB.reads E β sb b w) (ho : SB.owns sb b w) : SB.reads E β sb b w' ∧ SB.owns sb b w' := by
  obtain ⟨h0, arr, e, hh, hrw⟩ := ho
  refine ⟨⟨Nat.lt_of_lt_of_le hr.1 k.size, fun q s hq => ?_, hr.3.imp id fun ⟨g1, g2⟩ => ⟨g1, fun q x hq => ?_⟩, hr.4⟩, h0, arr, e, (k.block _ hr.1 hg).trans hh, hrw⟩
  · obtain ⟨v, hv, hv1⟩ := hr.2 q s hq
    exact ⟨v, (k.cell (p := ⟨b.blk, b.off + q, none⟩) hr.1 hg).trans hv, hv1⟩
  · obtain ⟨v, hv, hv1⟩ := g2 q x hq
    exact ⟨v, (k.cell (p := ⟨b.blk, b.off + q, none⟩) hr.1 hg).trans hv, hv1⟩
theorem owns_keeps {E : Env} {β : Pl} {B g : Nat} {mem : Mem} {w w' : World} (h : Owns E β B mem w) (k : Keeps g w w') (hne : ∀ i sb b, (i, sb) ∈ mem → β i = some b → b.blk ≠ g) : Owns E β B mem w' := by
  refine ⟨fun i sb hi => ?_, h.apart⟩
  obtain ⟨b, hb, hr, hB, ho⟩ := h.ent i sb hi
  obtain ⟨h1, h2⟩ := ent_keeps (B := B) k (hne i sb b hi hb) hr ho
  exact ⟨b, hb, h1, hB, h2⟩
theorem below_keeps {B g : Nat} {w0 w w' : World} (h : Below B w0 w) (k : Keeps g w w') (hB : B ≤ w.heap.size) (hg : B ≤ g) : Below B w0 w' :=
  h.trans ⟨k.os, k.tape, k.output, k.size, fun q hq => k.block q (Nat.lt_of_lt_of_le hq hB) (by omega)⟩
/-- A kind of marks: the cells of a row, what is written, and its symbolic values. -/
structure MkKind where
  m : Nat
  mv : Nat → Value
  sv : Nat → SV
structure MkOk (K : MkKind) : Prop where
  pos : 0 < K.m
  le : K.m ≤ 40
  rep : ∀ (E : Env) (β : Pl) (i : Nat), SV.rep E β (K.sv i) (K.mv i)
  inj : ∀ (E : Env) (β : Pl) (i : Nat) (v : Value), SV.rep E β (K.sv i) v → v = K.mv i
  one : ∀ i, (K.mv i).oneCell' = true
def marksL (sv : Nat → SV) : Nat → Nat → List SV
  | 0, _ => []
  | n + 1, i => sv i :: marksL sv n (i + 1)
theorem marksL_get {sv : Nat → SV} : ∀ {n i q : Nat}, q < n → (marksL sv n i)[q]? = some (sv (i + q))
  | n + 1, i, 0, _ => rfl
  | n + 1, i, q + 1, h => by
    simp only [marksL, List.getElem?_cons_succ]
    rw [marksL_get (by omega), show i + 1 + q = i + (q + 1) by omega]
theorem marksL_len {sv : Nat → SV} : ∀ {n i : Nat}, (marksL sv n i).length = n
  | 0, _ => rfl
  | n + 1, i => by simp [marksL, marksL_len]
/-- The number behind the marks of n rows. -/
def markK (m : Nat) (n : Tm) : Tm := .op (.addi .i64) (.op (.muli .i64) n (.il (.ofNat m))) (.il 1)
/-- A short list of the caller's own: its cells become marks. -/
def markS (K : MkKind) (σ : St) (j n : Nat) : Option (Out (SV × St)) :=
  match find σ.own j with
  | some sb => match Nat.ble (n * K.m) sb.cs.length, Nat.ble n 1000 with
    | true, true => some (.ret (.sc (.int .i64) (.il (.ofNat (1 + K.m * n))), { σ with own := setB σ.own j ⟨marksL K.sv (n * K.m) 0 ++ sb.cs.drop (n * K.m), sb.row⟩, sw := [] }))
    | _, _ => none
  | none => none
def isOne : Tm → Bool
  | .il (.ofNat k) => Nat.beq k 1
  | _ => false
theorem isOne_eq {t : Tm} (h : isOne t = true) : t = .il 1 := by
  unfold isOne at h
  split at h
  · rw [Nat.eq_of_beq_eq_true h]; rfl
  · cases h
/-- A list that grows is as long as it says. -/
def gsRoom (σ : St) (j n : Nat) : Bool :=
  match find σ.own j with
  | some sb => match sb.row with
    | some (_, _, k) => Nat.ble n k
    | none => false
  | none => false
def markX (K : MkKind) (ks : List SK) : List SV → St → Option (Out (SV × St)) := fun args σ => match args with
  | [s, .sc (.int .i64) t1] => match isOne t1 with
    | false => none
    | true => match s with
      | .sl j 0 n => markS K σ j n
      | .gs j n => match gsRoom σ j n with
        | true => markS K σ j n
        | false => none
      | .os j n t => match find σ.own j with
        | some _ => match decB σ.pc (rowsT ks n t), decB σ.pc (lim64 n), decB σ.pc (over n) with
          | some true, some true, some false => some (.ret (.sc (.int .i64) (markK K.m n), { σ with own := dropB σ.own j, pc := (.op .lti (markK K.m n) (.il 0), false) :: σ.pc, sw := [] }))
          | _, _, _ => none
        | none => none
      | _ => none
  | _ => none
section
variable {E : Env} {f : Nat} {K : MkKind} {ks : List SK}
def MkWalk (f : Nat) (K : MkKind) : Prop := ∀ (g len cap : Nat) (w : World) (e : TypeId) (arr : Array Value), w.heap[g]? = some (.cells arr e (0, 0)) → len * K.m ≤ arr.size → len ≤ cap → len ≤ 1048576 →
  Calls Try.prog f #[.slice (some ⟨g, 0, none⟩) len cap, .int .i64 1] w fun e1 w' => e1 = .returned (.int .i64 (1 + K.m * len)) ∧ Mk g e w w' arr K.mv (K.m * len)
theorem markS_ok (hK : MkOk K) (hf : ∃ fn, Try.prog.funcs[f]? = some fn ∧ fn.body.isSome = true) (walk : MkWalk f K) {σ : St} {j n : Nat} {o : Out (SV × St)} {s : SV} (ho : markS K σ j n = some o) {r : SV × St} (hr : o.sel E = some r) (hp : PcOk E σ.pc)
    (hs : ∀ (β : Pl) (v : Value) (b : Bs) (sb : SB) (w : World), find σ.own j = some sb → β j = some b → b.off = 0 → SB.owns sb b w → SV.rep E β s v → ∃ c, v = .slice (some ⟨b.blk, 0, none⟩) n c ∧ n ≤ c) {t1 : Tm} (ht1 : t1 = .il 1) :
    PcOk E r.2.pc ∧ FxOk Try.prog E f [s, .sc (.int .i64) t1] σ r := by
  subst ht1
  unfold markS at ho
  split at ho
  · rename_i sb hsb
    split at ho
    · rename_i hfit hn
      cases ho
      simp only [Out.sel, Option.some.injEq] at hr
      subst hr
      have hfit' := Nat.le_of_ble_eq_true hfit
      have hn' := Nat.le_of_ble_eq_true hn
      refine ⟨hp, fun β w0 w a vals hreps hrep => ⟨hf, ?_⟩⟩
      simp only [SV.reps] at hreps
      obtain ⟨v1, rest, rfl, hv1, v2, rest2, rfl, hv2, rfl⟩ := hreps
      simp only [SV.rep, SK.rep, Tm.den, Sc.toI_i] at hv2
      subst hv2
      have hmem := find_mem hsb
      obtain ⟨b, hb, hreads, hB, ho0⟩ := hrep.own.ent j sb hmem
      have hown := ho0
      obtain ⟨h0, arr, e, hh, hrw⟩ := ho0
      obtain ⟨c, rfl, hlc⟩ := hs β v1 b sb w hsb hb h0 hown hv1
      have hcell : ∀ i v, w.cell? ⟨b.blk, b.off + i, none⟩ = some v → arr[i]? = some v := by
        intro i v hv
        simpa [World.cell?, hh, h0] using hv
      have hsz : sb.cs.length ≤ arr.size := by
        rcases Nat.eq_zero_or_pos sb.cs.length with hz | hz
        · omega
        · obtain ⟨v, hv, _⟩ := hreads.2 (sb.cs.length - 1) _ (List.getElem?_eq_getElem (by omega))
          have := (Array.getElem?_eq_some_iff.1 (hcell _ _ hv)).1
          omega
      refine (walk b.blk n c w e arr hh (by omega) hlc (by omega)).mono fun e' w' ⟨he, hM⟩ => ?_
      obtain ⟨⟨arr', hh', hsz', hmk, hrest⟩, hkp⟩ := hM
      have hcell' : ∀ i, w'.cell? ⟨b.blk, b.off + i, none⟩ = arr'[i]? := fun i => by simp [World.cell?, hh', h0]
      refine ⟨_, β, he, ?_, Ext.refl _ _, ⟨fun i sb2 hi => ?_, fun i sb1 i' sb2 b1 b2 h1 h2 hne hb1 hb2 => ?_⟩, hrep.fresh, hrep.le, below_keeps hrep.below hkp hrep.below.size hB, fun p hp => by cases hp⟩
      · simp only [SV.rep, SK.rep, Tm.den, Sc.toI_i]
        congr 1
      · rcases setB_mem hi with ⟨h1, h2⟩ | ⟨h1, h2⟩
        · simp only at h1 h2
          subst h1; subst h2
          refine ⟨b, hb, ⟨Nat.lt_of_lt_of_le hreads.1 hkp.size, fun q s2 hq => ?_, ?_, hreads.4⟩, hB, h0, arr', e, hh', ?_⟩
          · rw [hcell']
            by_cases hqn : q < n * K.m
            · rw [List.getElem?_append_left (by rw [marksL_len]; exact hqn), marksL_get hqn] at hq
              cases hq
              rw [Nat.zero_add]
              exact ⟨_, hmk q (by rw [Nat.mul_comm]; exact hqn), hK.one q, hK.rep E β q⟩
            · rw [List.getElem?_append_right (by rw [marksL_len]; omega), marksL_len, List.getElem?_drop, show n * K.m + (q - n * K.m) = q by omega] at hq
              obtain ⟨v, hv, hv1, hv2⟩ := hreads.2 q s2 hq
              rw [hrest q (by rw [Nat.mul_comm]; omega)]
              exact ⟨v, hcell _ _ hv, hv1, hv2⟩
          · rcases hreads.3 with h | ⟨h, hg⟩
            · exact .inl h
            · rcases Nat.eq_zero_or_pos (n * K.m) with hz | hz
              · refine .inr ⟨by simp only; rw [h, hz]; rfl, fun q x hq => ?_⟩
                obtain ⟨v, hv, hv1⟩ := hg q x hq
                refine ⟨v, ?_, hv1⟩
                rw [hcell', hrest q (by rw [Nat.mul_comm]; omega)]
                exact hcell _ _ hv
              · rw [h] at hfit'; simp at hfit'; omega
          · have hlen : (marksL K.sv (n * K.m) 0 ++ sb.cs.drop (n * K.m)).length = sb.cs.length := by simp [marksL_len]; omega
            simp only [hlen, hsz']
            exact hrw
        · obtain ⟨b2, hb2, hr2, hB2, ho2⟩ := hrep.own.ent i sb2 h2
          have hne := hrep.own.apart i sb2 j sb b2 b h2 hmem h1 hb2 hb
          obtain ⟨g1, g2⟩ := ent_keeps (B := w0.heap.size) hkp hne hr2 ho2
          exact ⟨b2, hb2, g1, hB2, g2⟩
      · have key : ∀ {i sbi}, (i, sbi) ∈ setB σ.own j ⟨marksL K.sv (n * K.m) 0 ++ sb.cs.drop (n * K.m), sb.row⟩ → ∃ sb2, (i, sb2) ∈ σ.own := by
          intro i sbi hi
          rcases setB_mem hi with ⟨h1, _⟩ | ⟨_, h2⟩
          · simp only at h1; subst h1; exact ⟨sb, hmem⟩
          · exact ⟨sbi, h2⟩
        obtain ⟨s1, m1⟩ := key h1
        obtain ⟨s2, m2⟩ := key h2
        exact hrep.own.apart i s1 i' s2 b1 b2 m1 m2 hne hb1 hb2
    · cases ho
  · cases ho
/-- The contract of marking. -/
theorem markX_ok (hK : MkOk K) (hlen : ks.length = K.m) (hF : ∀ c, E.fn 900 c = F900 c) (hf : ∃ fn, Try.prog.funcs[f]? = some fn ∧ fn.body.isSome = true) (walk : MkWalk f K) :
    ∀ args σ o, markX K ks args σ = some o → ∀ r, o.sel E = some r → PcOk E σ.pc → PcOk E r.2.pc ∧ FxOk Try.prog E f args σ r := by
  intro args σ o ho r hr hp
  unfold markX at ho
  split at ho
  · rename_i s t1
    split at ho
    · cases ho
    · rename_i h1
      have ht1 := isOne_eq h1
      split at ho
      · rename_i j n
        exact markS_ok hK hf walk ho hr hp (fun β v b sb w hsb hb h0 ho2 hv => by
          simp only [SV.rep] at hv
          obtain ⟨b', c, hb', rfl, hc⟩ := hv
          rw [hb] at hb'; cases hb'
          exact ⟨c, by rw [h0], hc⟩) ht1
      · rename_i j n
        split at ho
        · rename_i hroom
          exact markS_ok hK hf walk ho hr hp (fun β v b sb w hsb hb h0 ho2 hv => by
            simp only [SV.rep] at hv
            obtain ⟨b', hb', _, rfl, _⟩ := hv
            rw [hb] at hb'; cases hb'
            refine ⟨_, rfl, ?_⟩
            unfold gsRoom at hroom
            rw [hsb] at hroom
            simp only at hroom
            split at hroom
            · rename_i e' sz k hrow
              obtain ⟨_, arr, e, _, hrw⟩ := ho2
              rw [hrow] at hrw
              have := Nat.le_of_ble_eq_true hroom
              simp only at hrw
              omega
            · cases hroom) ht1
        · cases ho
      · rename_i j n t
        split at ho
        · rename_i sb hsb
          split at ho
          · rename_i hd1 hd2 hd3
            cases ho
            simp only [Out.sel, Option.some.injEq] at hr
            subst hr; subst ht1
            have hm0 := hK.pos
            have hm1 := hK.le
            have h1 := decB_ok hp _ hd1
            simp only [rowsT, Tm.den, hF, F900, Sc.toB_b] at h1
            have hrows := @of_decide_eq_true _ (Classical.propDecidable _) h1
            simp only [Sc.at_zero, Sc.at_succ] at hrows
            rw [ksT_den] at hrows
            replace hrows := hrows.1
            have hlen2 : (ks.map fun k => Sc.i k.n).length = K.m := by simpa using hlen
            have h2 : (n.den E).toI ≤ 9223372036854775807 := of_decide_eq_true (decB_ok hp _ hd2)
            have h3 : ¬ IntKind.i64.wrap (1048576 - (n.den E).toI) < 0 := of_decide_eq_false (decB_ok hp _ hd3)
            have hN : 0 ≤ (n.den E).toI → (n.den E).toI ≤ 1048576 → ((markK K.m n).den E).toI = 1 + K.m * (n.den E).toI := by
              intro p1 p2
              have e1 : (n.den E).toI * Int.ofNat K.m ≤ 1048576 * 40 := Int.mul_le_mul p2 (Int.ofNat_le.2 hm1) (Int.natCast_nonneg _) (by decide)
              have e2 : 0 ≤ (n.den E).toI * Int.ofNat K.m := Int.mul_nonneg p1 (Int.natCast_nonneg _)
              show IntKind.i64.wrap (IntKind.i64.wrap ((n.den E).toI * Int.ofNat K.m) + 1) = _
              rw [wrap_in .i64 (n := (n.den E).toI * Int.ofNat K.m) (by rw [← kmin_eq]; show (-9223372036854775808 : Int) ≤ _; omega) (by rw [← kmax_eq]; show _ ≤ (9223372036854775807 : Int); omega)]
              rw [wrap_in .i64 (by rw [← kmin_eq]; show (-9223372036854775808 : Int) ≤ _; omega) (by rw [← kmax_eq]; show _ ≤ (9223372036854775807 : Int); omega)]
              rw [Int.mul_comm, Int.add_comm]; rfl
            have hle : 0 ≤ (n.den E).toI → (n.den E).toI ≤ 1048576 := by
              intro p1
              rw [wrapEq] at h3
              unfold wrap64 at h3
              omega
            have hn0 : 0 ≤ (n.den E).toI := by
              have h4 := hrows.1
              rw [hlen2] at h4
              by_cases h5 : 0 ≤ (n.den E).toI
              · exact h5
              · have : (n.den E).toI * (K.m : Int) < 0 := Int.mul_neg_of_neg_of_pos (by omega) (by omega)
                omega
            refine ⟨hp.cons ?_, fun β w0 w a vals hreps hrep => ⟨hf, ?_⟩⟩
            · show decide (((markK K.m n).den E).toI < 0) = false
              rw [hN hn0 (hle hn0)]
              have : (0 : Int) ≤ K.m * (n.den E).toI := Int.mul_nonneg (Int.natCast_nonneg _) hn0
              exact decide_eq_false (by omega)
            simp only [SV.reps] at hreps
            obtain ⟨v1, rest, rfl, hv1, v2, rest2, rfl, hv2, rfl⟩ := hreps
            simp only [SV.rep, SK.rep, Tm.den, Sc.toI_i] at hv1 hv2
            subst hv2
            obtain ⟨b, l, c, hb, rfl, hlc, hln, hval⟩ := hv1
            obtain ⟨b2, hb2, hreads, hB, h0, arr, e, hh, _⟩ := hrep.own.ent j sb (find_mem hsb)
            rw [hb] at hb2; cases hb2
            have hvl : b.val.length = l * K.m := by
              have h4 := hrows.1
              rw [hlen2, ← hln, ← hval, ← Int.natCast_mul] at h4
              exact Int.ofNat.inj h4
            have hsz : l * K.m ≤ arr.size := by
              rcases Nat.eq_zero_or_pos (l * K.m) with hz | hz
              · omega
              · rcases hreads.gen with he | ⟨_, hg⟩
                · rw [he] at hvl; simp at hvl; omega
                · have hx : b.val[l * K.m - 1]? = some (b.val[l * K.m - 1]'(by omega)) := List.getElem?_eq_getElem _
                  obtain ⟨v, hv, _⟩ := hg _ _ hx
                  simp only [World.cell?, hh, h0, Nat.zero_add] at hv
                  have := (Array.getElem?_eq_some_iff.1 hv).1
                  omega
            rw [h0]
            refine (walk b.blk l c w e arr hh hsz hlc (by have := hle hn0; omega)).mono fun e' w' ⟨he, hM⟩ => ?_
            have hsub : ∀ x, x ∈ dropB σ.own j → x ∈ σ.own := fun x hx => (dropB_mem hx).2
            refine ⟨_, β, he, ?_, Ext.refl _ _, owns_keeps (hrep.own.sub hsub) hM.keeps (fun i sb2 b2 hi hb2 => ?_), hrep.fresh, hrep.le, below_keeps hrep.below hM.keeps hrep.below.size hB, fun p hp => by cases hp⟩
            · simp only [SV.rep, SK.rep]
              rw [hN hn0 (hle hn0), hln]
            · obtain ⟨hij, hi'⟩ := dropB_mem hi
              exact hrep.own.apart i sb2 j sb b2 b hi' (find_mem hsb) hij hb2 hb
          · cases ho
        · cases ho
      · cases ho
  · cases ho
/-- The marks are looked for where they are. -/
def heldX (K : MkKind) : Sum := fun args m pc => match args with
  | [s, .sc (.int .i64) t1] => match isOne t1, sliceCells m.mem K.m s with
    | true, some (n, cs) => match SV.beqs cs (marksL K.sv (n * K.m) 0), Nat.ble n 1000 with
      | true, true => val m pc (.sc (.int .i64) (.il (.ofNat (1 + K.m * n))))
      | _, _ => .bad 342
    | _, _ => .bad 343
  | _ => .bad 344
def HeldWalk (f : Nat) (K : MkKind) : Prop := ∀ (b off len cap : Nat) (w : World), Held b off (K.m * len) K.mv w → len ≤ 1048576 →
  Calls Try.prog f #[.slice (some ⟨b, off, none⟩) len cap, .int .i64 1] w fun e1 w' => e1 = .returned (.int .i64 (1 + K.m * len)) ∧ Below w.heap.size w w'
theorem held_cells (hK : MkOk K) {β : Pl} {w : World} {sb : SB} {b : Bs} {o n : Nat} {cs : List SV} (hr : SB.reads E β sb b w) (hc : cut sb.cs o (n * K.m) = some cs) (he : SV.beqs cs (marksL K.sv (n * K.m) 0) = true) : Held b.blk (b.off + o) (K.m * n) K.mv w := by
  refine ⟨hr.1, fun i hi => ?_⟩
  have hi' : i < n * K.m := by rw [Nat.mul_comm]; exact hi
  have hcs := SV.beqs_eq _ _ he
  have hx : cs[i]? = some (K.sv i) := by rw [hcs, marksL_get hi', Nat.zero_add]
  obtain ⟨v, hv, _, hrep⟩ := hr.2 (o + i) _ (cut_get hc hx)
  rw [hK.inj E β i v hrep] at hv
  rw [Nat.add_assoc]; exact hv
theorem heldX_ok (hK : MkOk K) (hf : ∃ fn, Try.prog.funcs[f]? = some fn ∧ fn.body.isSome = true) (walk : HeldWalk f K) : SumOk Try.prog E f (heldX K) := by
  intro args m pc r hr β w vals hreps hm hfr hl hp
  unfold heldX at hr
  split at hr
  · rename_i s t1
    split at hr
    · rename_i n cs h1 hsl
      split at hr
      · rename_i hbe hn
        have ht1 := isOne_eq h1
        subst ht1
        simp only [val, Out.sel, Option.some.injEq] at hr
        subst hr
        have hn' := Nat.le_of_ble_eq_true hn
        simp only [SV.reps] at hreps
        obtain ⟨v1, rest, rfl, hv1, v2, rest2, rfl, hv2, rfl⟩ := hreps
        simp only [SV.rep, SK.rep, Tm.den, Sc.toI_i] at hv2
        subst hv2
        have key : ∃ b off c, v1 = .slice (some ⟨b, off, none⟩) n c ∧ Held b off (K.m * n) K.mv w := by
          unfold sliceCells at hsl
          split at hsl
          · rename_i j o n'
            split at hsl
            · rename_i sb hsb
              split at hsl
              · rename_i x hx
                cases hsl
                simp only [SV.rep] at hv1
                obtain ⟨b, c, hbj, rfl, _⟩ := hv1
                obtain ⟨b', hb', hreads⟩ := hm j sb (find_mem hsb)
                rw [hbj] at hb'; cases hb'
                exact ⟨_, _, _, rfl, held_cells hK hreads hx hbe⟩
              · cases hsl
            · cases hsl
          · rename_i j n'
            split at hsl
            · rename_i sb hsb
              split at hsl
              · rename_i x hx
                cases hsl
                simp only [SV.rep] at hv1
                obtain ⟨b, hbj, h0, rfl, _⟩ := hv1
                obtain ⟨b', hb', hreads⟩ := hm j sb (find_mem hsb)
                rw [hbj] at hb'; cases hb'
                have := held_cells (o := 0) hK hreads hx hbe
                rw [h0] at this
                exact ⟨_, _, _, rfl, this⟩
              · cases hsl
            · cases hsl
          · cases hsl
        obtain ⟨b, off, c, rfl, hh⟩ := key
        refine ⟨hp, hl, hf, (walk b off n c w hh (by omega)).mono fun e w' ⟨he, hbel⟩ => ⟨_, β, he, ?_, Step.same _ hbel⟩⟩
        simp only [SV.rep, SK.rep, Tm.den, Sc.toI_i]
        congr 1
      · cases hr
    · cases hr
  · cases hr
theorem heldX_pc (args : List SV) (m : Mm) (pc : PC) (hp : PcOk E pc) : Pcs E Res.pc (heldX K args m pc) := by
  intro r hr
  unfold heldX at hr
  split at hr
  · split at hr
    · split at hr
      · simp only [val, Out.sel, Option.some.injEq] at hr
        subst hr
        exact hp
      · cases hr
    · cases hr
  · cases hr
end
/-! The kinds of marks -/
def kP : MkKind := ⟨34, mvP, fun i => match Nat.beq (i % 34) 0 with
  | true => .sc .str (.sl (mtB (i + 1)))
  | false => match Nat.beq (i % 34) 33 with
    | true => .sc (.int .i64) (.il (.ofNat (i + 1)))
    | false => .sc (.float .f32) (.fl (FloatKind.f32.nearest (.ofNat (i + 1))))⟩
def kC : MkKind := ⟨16, mvF, fun i => .sc (.float .f32) (.fl (FloatKind.f32.nearest (.ofNat (i + 1))))⟩
def kF : MkKind := ⟨1, mvF, fun i => .sc (.float .f32) (.fl (FloatKind.f32.nearest (.ofNat (i + 1))))⟩
def kD : MkKind := ⟨6, mvD, fun i => .sc (.int .i16) (.il (IntKind.i16.wrap (.ofNat (i + 1))))⟩
theorem near_nn (n : Int) : isNan .f32 (FloatKind.f32.nearest n) = false := write_notNan .f32 (.number (decide (n < 0)) n.natAbs 0) rfl
theorem repF {E : Env} {β : Pl} (n : Int) : SV.rep E β (.sc (.float .f32) (.fl (FloatKind.f32.nearest n))) (.float .f32 (FloatKind.f32.nearest n)) := by
  simp only [SV.rep, SK.rep]
  exact ⟨_, rfl, canon_not _ _ (near_nn n)⟩
theorem injF {E : Env} {β : Pl} (n : Int) (v : Value) (h : SV.rep E β (.sc (.float .f32) (.fl (FloatKind.f32.nearest n))) v) : v = .float .f32 (FloatKind.f32.nearest n) := by
  simp only [SV.rep, SK.rep] at h
  obtain ⟨x, rfl, hx⟩ := h
  have e : ((Tm.fl (FloatKind.f32.nearest n)).den E).toF = FloatKind.f32.nearest n := rfl
  rw [e] at hx
  have h1 : isNan .f32 x = false := by rw [← isNan_canon, hx]; exact near_nn n
  rw [canon_not _ _ h1] at hx
  rw [hx]
theorem kP_cases (i : Nat) : (kP.sv i = .sc .str (.sl (mtB (i + 1))) ∧ kP.mv i = .string ⟨(mtB (i + 1)).toArray⟩) ∨ (kP.sv i = .sc (.int .i64) (.il (.ofNat (i + 1))) ∧ kP.mv i = .int .i64 (.ofNat (i + 1))) ∨
    (kP.sv i = .sc (.float .f32) (.fl (FloatKind.f32.nearest (.ofNat (i + 1)))) ∧ kP.mv i = .float .f32 (FloatKind.f32.nearest (.ofNat (i + 1)))) := by
  by_cases h0 : i % 34 = 0
  · refine .inl ⟨?_, ?_⟩
    · simp only [kP]
      rw [show Nat.beq (i % 34) 0 = true by rw [h0]; rfl]
    · show mvP i = _
      unfold mvP; rw [if_pos h0]
  · have hb0 : Nat.beq (i % 34) 0 = false := by cases h : Nat.beq (i % 34) 0 with
      | false => rfl
      | true => exact absurd (Nat.eq_of_beq_eq_true h) h0
    by_cases h1 : i % 34 = 33
    · refine .inr (.inl ⟨?_, ?_⟩)
      · simp only [kP, hb0]
        rw [show Nat.beq (i % 34) 33 = true by rw [h1]; rfl]
      · show mvP i = _
        unfold mvP; rw [if_neg h0, if_pos h1]; rfl
    · have hb1 : Nat.beq (i % 34) 33 = false := by cases h : Nat.beq (i % 34) 33 with
        | false => rfl
        | true => exact absurd (Nat.eq_of_beq_eq_true h) h1
      refine .inr (.inr ⟨?_, ?_⟩)
      · simp only [kP, hb0, hb1]
      · show mvP i = _
        unfold mvP; rw [if_neg h0, if_neg h1]; rfl
theorem kP_ok : MkOk kP where
  pos := by decide
  le := by decide
  rep := fun E β i => by
    rcases kP_cases i with ⟨h1, h2⟩ | ⟨h1, h2⟩ | ⟨h1, h2⟩ <;> rw [h1, h2]
    · simp only [SV.rep, SK.rep, Tm.den, Sc.toS_s]
    · simp only [SV.rep, SK.rep, Tm.den, Sc.toI_i]
    · exact repF _
  inj := fun E β i v h => by
    rcases kP_cases i with ⟨h1, h2⟩ | ⟨h1, h2⟩ | ⟨h1, h2⟩ <;> rw [h1] at h <;> rw [h2]
    · simpa only [SV.rep, SK.rep, Tm.den, Sc.toS_s] using h
    · simpa only [SV.rep, SK.rep, Tm.den, Sc.toI_i] using h
    · exact injF _ v h
  one := fun i => by rcases kP_cases i with ⟨_, h2⟩ | ⟨_, h2⟩ | ⟨_, h2⟩ <;> rw [h2] <;> rfl
theorem kC_ok : MkOk kC := ⟨by decide, by decide, fun E β i => repF _, fun E β i v h => injF _ v h, fun i => rfl⟩
theorem kF_ok : MkOk kF := ⟨by decide, by decide, fun E β i => repF _, fun E β i v h => injF _ v h, fun i => rfl⟩
theorem kD_ok : MkOk kD := ⟨by decide, by decide, fun E β i => by simp only [kD, SV.rep, SK.rep, Tm.den, Sc.toI_i]; rfl, fun E β i v h => by simp only [kD, SV.rep, SK.rep, Tm.den, Sc.toI_i] at h; exact h, fun i => rfl⟩
end Go.Proofs.Ytamljpeicecbjaa.Leaf
