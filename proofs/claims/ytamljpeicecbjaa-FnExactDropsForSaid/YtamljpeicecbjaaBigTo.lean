/- Long slices of pigments: the copy. No condition. -/
import Derived.Test.YtamljpeicecbjaaBig
import Derived.Laws.MakeOwn
namespace Go.Proofs.Ytamljpeicecbjaa.Leaf
open Go.RowKit
set_option linter.unusedVariables false
set_option linter.unusedSimpArgs false
set_option maxRecDepth 100000
theorem wpList_store {P : Program} (w w' : World) {ops : Array Oper} {rest : List Oper} {o : Oper} {a : Act} {Q : Exit → Act → World → Prop}
    (hg : o.guard = none) (x y : Operand) (t : TypeId) (hop : o.op = Op.store t x y) (ad : Addr) (hx : a.eval x = .pointer (some ad)) (v : Value) (hy : a.eval y = v) (hv : (storeVar t ad v).run P w = .ok () w')
    (hK : wpList P ops Q rest (a.put o.dst undef) w') : wpList P ops Q (o :: rest) a w := by
  refine wpList_plain hg fun K hK' => ?_
  unfold Oper.wp
  have hexec : (execOp a.eval o).run P w = .ok .skip w' := by
    simp only [execOp, hop, Instr.storeAt, hx, Instr.sureAddr, Sem.run_bind, Sem.run_pure, Result.andThen_ok, hy, hv]
  rw [hexec]
  exact hK' _ _ hK
theorem wpList_make {P : Program} (w : World) {ops : Array Oper} {rest : List Oper} {o : Oper} {a : Act} {Q : Exit → Act → World → Prop}
    (hg : o.guard = none) (l c : Operand) (t : TypeId) (hop : o.op = Op.makeSlice t l c) (e : TypeId) (i : TypeInfo) (z : Value) (h1 : P.underlying t = some (.slice e)) (h2 : P.info? e = some i) (h3 : i.zero = some z)
    (n : Nat) (hl : a.eval l = .int .i64 (n : Int)) (hc : a.eval c = .int .i64 (n : Int)) (b2 : n * i.bytes ≤ 281474976710656) (b3 : n ≤ maxLen)
    (hK : ∀ arr : Array Value, arr.size = n * i.size → wpList P ops Q rest (a.put o.dst (.slice (some ⟨w.heap.size, 0, none⟩) n n)) (w.alloc (.cells arr e))) : wpList P ops Q (o :: rest) a w := by
  refine wpList_plain hg fun K hK' => ?_
  unfold Oper.wp
  have hrun := run_make (P := P) w t e i z h1 h2 h3 .i64 .i64 n n (by omega) (by omega) (by
    have hm : (i.bytes : Int) * (n : Int) = ((n * i.bytes : Nat) : Int) := by rw [Int.natCast_mul]; exact Int.mul_comm _ _
    rw [hm]; omega) (by unfold maxLen at b3; omega)
  simp only [Int.toNat_natCast] at hrun
  have hexec : (execOp a.eval o).run P w = .ok (.value (.slice (some ⟨w.heap.size, 0, none⟩) n n)) (w.alloc (.cells (madeCells z.cells (n * i.size)) e)) := by
    simp [execOp, hop, hl, hc, hrun]
  rw [hexec]
  exact hK' _ _ (hK _ (size_madeCells _ _))
theorem info30 : (Try.prog.info? 30).map (fun i => (i.zero, i.size, i.bytes)) = (Try.prog.info? 30).map (fun i => (i.zero, 34, 152)) := by kernel_rfl
theorem some30 : (match Try.prog.info? 30 with | some i => (match i.zero with | some z => Nat.beq i.size 34 && Nat.beq i.bytes 152 && Nat.beq z.cells.size 34 | none => false) | none => false) = true := by kernel_rfl
theorem under39 : Try.prog.underlying 39 = some (.slice 30) := by kernel_rfl
theorem sz30 : Go.Sx.szT Try.prog 30 = some 34 := by kernel_rfl
/-- What has been copied after k rounds. -/
def Copied (Good : Nat → Array Value → Prop) (arr : Array Value) (k : Nat) : Prop := ∀ j, j < k → ∃ cs, Good j cs ∧ ∀ (q : Nat) (u : Value), cs[q]? = some u → arr[j * 34 + q]? = some u
/-- The cells behind the store of one element. -/
def laid (arr cs : Array Value) (k : Nat) : Array Value := (arr.toList.take (k * 34) ++ (Value.agg cs).cells.toList ++ arr.toList.drop (k * 34 + 34)).toArray
theorem copied_step {Good : Nat → Array Value → Prop} (hgood : ∀ k cs, Good k cs → cs.size = 34 ∧ ∀ x ∈ cs.toList, x.oneCell' = true) {arr cs : Array Value} {k len : Nat} (h : Copied Good arr k) (hk : k < len) (hs : arr.size = len * 34) (hg : Good k cs) (hc : cs.size = 34) :
    (laid arr cs k).size = len * 34 ∧ Copied Good (laid arr cs k) (k + 1) := by
  unfold laid
  have hle : k * 34 + 34 ≤ len * 34 := by omega
  refine ⟨by simp [Value.cells, hc, hs]; omega, fun j hj => ?_⟩
  by_cases hjk : j = k
  · subst hjk
    refine ⟨cs, hg, fun q u hu => ?_⟩
    have hq : q < 34 := by have := (Array.getElem?_eq_some_iff.1 hu).1; omega
    rw [List.getElem?_toArray, List.append_assoc, List.getElem?_append_right (by simp; omega)]
    simp only [List.length_take, Array.length_toList, hs, Value.cells]
    rw [show j * 34 + q - min (j * 34) (len * 34) = q by omega, List.getElem?_append_left (by simp; omega), Array.getElem?_toList]
    exact hu
  · obtain ⟨cs', h1, h2⟩ := h j (by omega)
    refine ⟨cs', h1, fun q u hu => ?_⟩
    have h3 := h2 q u hu
    by_cases hq : j * 34 + q < k * 34
    · rw [List.getElem?_toArray, List.append_assoc, List.getElem?_append_left (by simp; omega), List.getElem?_take, if_pos hq, Array.getElem?_toList]
      exact h3
    · exfalso
      have h4 := (hgood j cs' h1).1
      have h5 := (Array.getElem?_eq_some_iff.1 hu).1
      omega
theorem store30 {w : World} {g k len : Nat} {arr cs : Array Value} (hc : cs.size = 34 ∧ ∀ x ∈ cs.toList, x.oneCell' = true) (hg : w.heap[g]? = some (.cells arr 30 (0, 0))) (hs : arr.size = len * 34) (hk : k < len) :
    (storeVar 30 ⟨g, k * 34, none⟩ (.agg cs)).run Try.prog w = .ok () (w.setRow g (laid arr cs k)) :=
  Go.Sx.storeVar_run (arr := arr) (e := 30) sz30 (by simpa [Value.cells] using hc.1) (by simpa [Value.cells] using hc.2) hg (by omega)
theorem setRow_below {B g : Nat} {w0 w : World} {cs : Array Value} (h : Below B w0 w) (hg : B ≤ g) : Below B w0 (w.setRow g cs) :=
  h.trans ⟨rfl, rfl, rfl, by simp [World.setRow], fun k hk => by
    simp only [World.setRow, Array.getElem?_modify]
    rw [if_neg (by omega)]⟩
theorem to_walk (b off len cap : Nat) (R : Nat → Array Value) (Good : Nat → Array Value → Prop) (hgood : ∀ k cs, Good k cs → cs.size = 34 ∧ ∀ x ∈ cs.toList, x.oneCell' = true) (w : World) (hlen : len ≤ cap) (hm : len ≤ 1048576) (hb : b < w.heap.size)
    (hload : ∀ k w', k < len → Below w.heap.size w w' → (loadVar 25 ⟨b, off + k * 34, none⟩).run Try.prog w' = .ok (.agg (R k)) w')
    (h1 : ∀ k w', k < len → Calls Try.prog 35 #[.agg (R k)] w' fun e w'' => ∃ cs, e = .returned (.agg cs) ∧ Good k cs ∧ Below w'.heap.size w' w'') :
    Calls Try.prog 126 #[.slice (some ⟨b, off, none⟩) len cap] w fun e w' => ∃ arr, e = .returned (.slice (some ⟨w.heap.size, 0, none⟩) len len) ∧ w'.heap[w.heap.size]? = some (.cells arr 30 (0, 0)) ∧ arr.size = len * 34 ∧ Copied Good arr len ∧ Below w.heap.size w w' := by
  have G1 : Hid (∀ k w', k < len → Calls Try.prog 35 #[.agg (R k)] w' fun e w'' => ∃ cs, e = .returned (.agg cs) ∧ Good k cs ∧ Below w'.heap.size w' w'') := h1
  have G2 : Hid (∀ k w', k < len → Below w.heap.size w w' → (loadVar 25 ⟨b, off + k * 34, none⟩).run Try.prog w' = .ok (.agg (R k)) w') := hload
  have G3 : Hid (∀ k cs, Good k cs → cs.size = 34 ∧ ∀ x ∈ cs.toList, x.oneCell' = true) := hgood
  clear h1 hload hgood
  obtain ⟨i0, z0, hi, hz, hsz, hby, hzs⟩ : ∃ i z, Try.prog.info? 30 = some i ∧ i.zero = some z ∧ i.size = 34 ∧ i.bytes = 152 ∧ z.cells.size = 34 := by
    have h := some30
    split at h
    · rename_i i hi
      split at h
      · rename_i z hz
        simp only [Bool.and_eq_true] at h
        exact ⟨i, z, hi, hz, Nat.eq_of_beq_eq_true h.1.1, Nat.eq_of_beq_eq_true h.1.2, Nat.eq_of_beq_eq_true h.2⟩
      · cases h
    · cases h
  have HI : Hid (Try.prog.info? 30 = some i0) := hi
  have HZ : Hid (i0.zero = some z0) := hz
  have HS : Hid (i0.size = 34) := hsz
  have HB : Hid (i0.bytes = 152) := hby
  clear hi hz hsz hby
  have hm3 : len ≤ maxLen := by unfold maxLen; omega
  go_enter Try.func126, Try.ntmps126
  clear hzs
  go_wp2_with (first | (refine wpList_make _ rfl _ _ 39 rfl 30 i0 z0 under39 HI.out HZ.out len rfl rfl (by rw [HB.out]; omega) hm3 ?_; intro arr0 harr0; rw [HS.out] at harr0) | go_in)
  go_loopw [4] (fun i wr => ∃ (k : Nat) (arr : Array Value), k ≤ len ∧ i = .int .i64 k ∧ wr.heap[w.heap.size]? = some (.cells arr 30 (0, 0)) ∧ arr.size = len * 34 ∧ Copied Good arr k ∧ Below w.heap.size w wr) (fun i _ => len - (intOf i).toNat)
  case atStart => exact ⟨0, arr0, Nat.zero_le _, rfl, Array.getElem?_push_size, harr0, fun j hj => by omega, (Below.refl _ _).alloc (Nat.le_refl _) _⟩
  case round =>
    obtain ⟨k, arr, hk, rfl, hh, hs, hcp, hbel⟩ := hrel
    have HH : Hid (wr.heap[w.heap.size]? = some (.cells arr 30 (0, 0)) ∧ arr.size = len * 34 ∧ Copied Good arr k) := ⟨hh, hs, hcp⟩
    have hwlt : w.heap.size < wr.heap.size := (Array.getElem?_eq_some_iff.1 hh).1
    clear hh hs hcp
    go_wp2_with (first | (refine wpList_load _ rfl _ 25 rfl ⟨b, off + k * 34, none⟩ rfl (.agg (R k)) (G2.out k _ (by assumption) hbel) ?_) | (go_at_call 35; refine (G1.out k _ (by assumption)).mono ?_; rintro e w' ⟨cs, rfl, hgd, hb'⟩) | (refine wpList_store _ _ rfl _ _ 30 rfl ⟨w.heap.size, k * 34, none⟩ rfl _ rfl (store30 (G3.out k _ hgd) ((hb'.block _ hwlt).trans HH.out.1) HH.out.2.1 (by assumption)) ?_) | go_in)
    · have hk' : k < len := by assumption
      have hst := copied_step G3.out HH.out.2.2 hk' HH.out.2.1 hgd (G3.out k _ hgd).1
      go_roundw
      case rel => exact ⟨k + 1, laid arr _ k, by omega, by go_num, setRow_heap _ _ arr _ _ _ ((hb'.block _ hwlt).trans HH.out.1), hst.1, hst.2, setRow_below (hbel.trans (hb'.mono hbel.size)) (Nat.le_refl _)⟩
      case measure => simp [intOf]; omega
    · go_ret
      have hkl : k = len := by omega
      exact ⟨arr, rfl, HH.out.1, HH.out.2.1, hkl ▸ HH.out.2.2, hbel⟩
end Go.Proofs.Ytamljpeicecbjaa.Leaf
