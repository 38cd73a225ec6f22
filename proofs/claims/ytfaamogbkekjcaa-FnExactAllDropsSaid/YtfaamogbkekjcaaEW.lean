/- Marking lists: what is written, cell for cell. No condition. -/
import Derived.Test.YtfaamogbkekjcaaProg
import Derived.Test.YtfaamogbkekjcaaSxPat
import Derived.WalkKit
import Derived.LoopTactic
import Derived.Laws.Externs
import Derived.Laws.MakeOwn
import Derived.StillTailTactics
namespace Go.Proofs.Ytfaamogbkekjcaa.Leaf
open Go.RowKit
set_option linter.unusedVariables false
set_option linter.unusedSimpArgs false
set_option maxRecDepth 100000
theorem wpList_load {P : Program} (w : World) {ops : Array Oper} {rest : List Oper} {o : Oper} {a : Act} {Q : Exit → Act → World → Prop}
    (hg : o.guard = none) (x : Operand) (t : TypeId) (hop : o.op = Op.load t x) (ad : Addr) (hx : a.eval x = .pointer (some ad)) (v : Value) (hv : (loadVar t ad).run P w = .ok v w)
    (hK : wpList P ops Q rest (a.put o.dst v) w) : wpList P ops Q (o :: rest) a w := by
  refine wpList_plain hg fun K hK' => ?_
  unfold Oper.wp
  simp [execOp, hop, hx, Instr.loadAt, Instr.sureAddr, hv, Result.andThen]
  exact hK' _ _ hK
theorem wpList_store {P : Program} (w w' : World) {ops : Array Oper} {rest : List Oper} {o : Oper} {a : Act} {Q : Exit → Act → World → Prop}
    (hg : o.guard = none) (x y : Operand) (t : TypeId) (hop : o.op = Op.store t x y) (ad : Addr) (hx : a.eval x = .pointer (some ad)) (v : Value) (hy : a.eval y = v) (hv : (storeVar t ad v).run P w = .ok () w')
    (hK : wpList P ops Q rest (a.put o.dst undef) w') : wpList P ops Q (o :: rest) a w := by
  refine wpList_plain hg fun K hK' => ?_
  unfold Oper.wp
  have hexec : (execOp a.eval o).run P w = .ok .skip w' := by
    simp only [execOp, hop, Instr.storeAt, hx, Instr.sureAddr, Sem.run_bind, Sem.run_pure, Result.andThen_ok, hy, hv]
  rw [hexec]
  exact hK' _ _ hK
theorem setRow_below {B g : Nat} {w0 w : World} {cs : Array Value} (h : Below B w0 w) (hg : B ≤ g) : Below B w0 (w.setRow g cs) :=
  h.trans ⟨rfl, rfl, rfl, by simp [World.setRow], fun k hk => by
    simp only [World.setRow, Array.getElem?_modify]
    rw [if_neg (by omega)]⟩
theorem wpList_conv {P : Program} (w : World) {ops : Array Oper} {rest : List Oper} {o : Oper} {a : Act} {Q : Exit → Act → World → Prop}
    (hg : o.guard = none) (x : Operand) (s d : TypeId) (hop : o.op = Op.convert s d x) (v : Value) (hv : (convert s d (a.eval x)).run P w = .ok v w)
    (hK : wpList P ops Q rest (a.put o.dst v) w) : wpList P ops Q (o :: rest) a w := by
  refine wpList_plain hg fun K hK' => ?_
  unfold Oper.wp
  simp [execOp, hop, hv]
  exact hK' _ _ hK
/-- A world in which one block has been written to and new ones made. -/
structure Keeps (g : Nat) (w w' : World) : Prop where
  os : w'.os = w.os
  tape : w'.tape = w.tape
  output : w'.output = w.output
  size : w.heap.size ≤ w'.heap.size
  block : ∀ k, k < w.heap.size → k ≠ g → w'.heap[k]? = w.heap[k]?
theorem Keeps.refl (g : Nat) (w : World) : Keeps g w w := ⟨rfl, rfl, rfl, Nat.le_refl _, fun _ _ _ => rfl⟩
theorem Keeps.below {g : Nat} {w w1 w2 : World} (h : Keeps g w w1) (k : Below w1.heap.size w1 w2) : Keeps g w w2 :=
  ⟨k.os.trans h.os, k.tape.trans h.tape, k.output.trans h.output, Nat.le_trans h.size k.size, fun i hi hne => (k.block i (Nat.lt_of_lt_of_le hi h.size)).trans (h.block i hi hne)⟩
theorem Keeps.setRow {g : Nat} {w w1 : World} (h : Keeps g w w1) (cs : Array Value) : Keeps g w (w1.setRow g cs) :=
  ⟨h.os, h.tape, h.output, by simpa [World.setRow] using h.size, fun i hi hne => by
    simp only [World.setRow, Array.getElem?_modify]
    rw [if_neg (by omega)]
    exact h.block i hi hne⟩
theorem sz54 : Go.Sx.szT Try.prog 31 = some 1 := by kernel_rfl
/-- The first p cells of a block are marked. -/
structure Mk (g : Nat) (e : TypeId) (w wr : World) (arr0 : Array Value) (mv : Nat → Value) (p : Nat) : Prop where
  ex : ∃ arr, wr.heap[g]? = some (.cells arr e (0, 0)) ∧ arr.size = arr0.size ∧ (∀ i, i < p → arr[i]? = some (mv i)) ∧ (∀ i, p ≤ i → arr[i]? = arr0[i]?)
  keeps : Keeps g w wr
theorem Mk.store {g p : Nat} {e t : TypeId} {w wr : World} {arr0 : Array Value} {mv : Nat → Value} (h : Mk g e w wr arr0 mv p) (hn : Go.Sx.szT Try.prog t = some 1) (h1 : (mv p).oneCell' = true) (hp : p < arr0.size) : ∃ w', (storeVar t ⟨g, p, none⟩ (mv p)).run Try.prog wr = .ok () w' ∧ Mk g e w w' arr0 mv (p + 1) := by
  obtain ⟨⟨arr, hg, hs, hm, hr⟩, hk⟩ := h
  have hc := Go.Sx.one_cells h1
  have e1 : (arr.toList.take p ++ (mv p).cells.toList ++ arr.toList.drop (p + 1)) = arr.toList.set p (mv p) := by
    rw [hc, List.set_eq_take_append_cons_drop]
    rw [if_pos (by simp; omega)]
    simp
  have h2 := Go.Sx.storeVar_run (arr := arr) (o := p) (e := e) (v := mv p) hn (by rw [hc]; rfl) (by rw [hc]; simp [h1]) hg (by omega)
  rw [e1] at h2
  refine ⟨_, h2, ⟨_, setRow_heap _ _ arr _ _ _ hg, by simp [hs], fun i hi => ?_, fun i hi => ?_⟩, hk.setRow _⟩
  · rw [List.getElem?_toArray, List.getElem?_set]
    by_cases hip : p = i
    · subst hip
      rw [if_pos rfl, if_pos (by simp; omega)]
    · rw [if_neg hip, Array.getElem?_toList]
      exact hm i (by omega)
  · rw [List.getElem?_toArray, List.getElem?_set, if_neg (by omega), Array.getElem?_toList]
    exact hr i (by omega)
theorem Mk.below {g p : Nat} {e : TypeId} {w w1 w2 : World} {arr0 : Array Value} {mv : Nat → Value} (h : Mk g e w w1 arr0 mv p) (k : Below w1.heap.size w1 w2) : Mk g e w w2 arr0 mv p := by
  obtain ⟨⟨arr, hg, hs⟩, hk⟩ := h
  exact ⟨⟨arr, (k.block _ (Array.getElem?_eq_some_iff.1 hg).1).trans hg, hs⟩, hk.below k⟩
theorem wpList_mk {ops : Array Oper} {rest : List Oper} {o : Oper} {a : Act} {Q : Exit → Act → World → Prop} {g p off : Nat} {e : TypeId} {w wr : World} {arr0 : Array Value} {mv : Nat → Value} (hM : Hid (Mk g e w wr arr0 mv p))
    (hg : o.guard = none) (x y : Operand) (t : TypeId) (hop : o.op = Op.store t x y) (hx : a.eval x = .pointer (some ⟨g, off, none⟩)) (ho : off = p) {v : Value} (hy : a.eval y = v) (hv : v = mv p) (hn : Go.Sx.szT Try.prog t = some 1) (h1 : v.oneCell' = true) (hp : p < arr0.size)
    (hK : ∀ w', Hid (Mk g e w w' arr0 mv (p + 1)) → wpList Try.prog ops Q rest (a.put o.dst undef) w') : wpList Try.prog ops Q (o :: rest) a wr := by
  subst hv; subst ho
  obtain ⟨w', h2, h3⟩ := hM.out.store hn h1 hp
  exact wpList_store _ _ hg x y t hop _ hx _ hy h2 (hK _ h3)
theorem tu3 : Try.prog.underlying 3 = some (.int .i64) := by kernel_rfl
theorem tu54 : Try.prog.underlying 31 = some (.int .i16) := by kernel_rfl
theorem conv_is (n : Int) (w : World) : (convert 3 31 (.int .i64 n)).run Try.prog w = .ok (.int .i16 (IntKind.i16.wrap n)) w := by
  simp only [convert, Sem.run_bind, run_underlying tu3, run_underlying tu54, Result.andThen_ok]
  rfl
def mvD (i : Nat) : Value := .int .i16 (IntKind.i16.wrap ((i + 1 : Nat) : Int))
theorem mk_at {g p q : Nat} {e : TypeId} {w wr : World} {arr0 : Array Value} {mv : Nat → Value} (h : Hid (Mk g e w wr arr0 mv p)) (hq : p = q) : Hid (Mk g e w wr arr0 mv q) := hq ▸ h
theorem mvD_e {i : Nat} {n : Int} (h : n = ((i + 1 : Nat) : Int)) : Value.int .i16 (IntKind.i16.wrap n) = mvD i := by unfold mvD; rw [h]
set_option maxHeartbeats 2000000 in
theorem markD_walk (g len cap : Nat) (w : World) (e : TypeId) (arr : Array Value) (hg : w.heap[g]? = some (.cells arr e (0, 0))) (hs : len * 6 ≤ arr.size) (hlen : len ≤ cap) (hm : len ≤ 1048576) :
    Calls Try.prog 7 #[.slice (some ⟨g, 0, none⟩) len cap, .int .i64 1] w fun e1 w' => e1 = .returned (.int .i64 (1 + 6 * len)) ∧ Mk g e w w' arr mvD (6 * len) := by
  have H0 : Hid (Mk g e w w arr mvD (6 * 0)) := ⟨⟨arr, hg, rfl, fun i hi => by omega, fun _ _ => rfl⟩, Keeps.refl _ _⟩
  clear hg
  go_enter Try.func7, Try.ntmps7
  go_wp2
  go_loopw [1, 5] (fun kk i wr => ∃ (k : Nat), k ≤ len ∧ i = .int .i64 k ∧ kk = .int .i64 (6 * k + 1 : Nat) ∧ Hid (Mk g e w wr arr mvD (6 * k))) (fun _ i _ => len - (intOf i).toNat)
  case atStart => exact ⟨0, Nat.zero_le _, rfl, rfl, H0⟩
  case round =>
    obtain ⟨k, hk, rfl, rfl, HM⟩ := hrel
    go_wp2
    · have hkl : k < len := by assumption
      rw [decide_eq_true hkl]
      go_loopw [1, 6] (fun kk i wr => ∃ (q : Nat), q ≤ 6 ∧ i = .int .i64 q ∧ kk = .int .i64 (6 * k + 1 + q : Nat) ∧ Hid (Mk g e w wr arr mvD (6 * k + q))) (fun _ i _ => 6 - (intOf i).toNat)
      case atStart => exact ⟨0, Nat.zero_le _, rfl, by go_num, HM⟩
      case round =>
        obtain ⟨q, hq, rfl, rfl, HMq⟩ := hrel
        go_wp2_with (first | (refine wpList_conv _ rfl _ 3 31 rfl _ (conv_is _ _) ?_) | (refine wpList_mk HMq rfl _ _ 31 rfl rfl (by omega) rfl (mvD_e (by omega)) sz54 rfl (by omega) ?_; intro w4 HM4) | go_in)
        · go_roundw
          case rel => exact ⟨q + 1, by omega, by go_num, by go_num, HM4⟩
          case measure => simp [intOf]; omega
        · go_roundw
          case rel => exact ⟨k + 1, by omega, by go_num, by go_num, mk_at HMq (by omega)⟩
          case measure => simp [intOf]; omega
    · go_ret
      have hkl : k = len := by omega
      subst hkl
      exact ⟨by simp; omega, HM.out⟩
end Go.Proofs.Ytfaamogbkekjcaa.Leaf
