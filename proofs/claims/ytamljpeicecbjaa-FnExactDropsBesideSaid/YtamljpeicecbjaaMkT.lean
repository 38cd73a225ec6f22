/- Marking lists: what the laws' own functions write and look for. No condition. -/
import Derived.Test.YtamljpeicecbjaaBigTo
namespace Go.Proofs.Ytamljpeicecbjaa.Leaf
open Go.RowKit
set_option linter.unusedVariables false
set_option linter.unusedSimpArgs false
set_option maxRecDepth 100000
theorem wpList_conv {P : Program} (w : World) {ops : Array Oper} {rest : List Oper} {o : Oper} {a : Act} {Q : Exit → Act → World → Prop}
    (hg : o.guard = none) (x : Operand) (s d : TypeId) (hop : o.op = Op.convert s d x) (v : Value) (hv : (convert s d (a.eval x)).run P w = .ok v w)
    (hK : wpList P ops Q rest (a.put o.dst v) w) : wpList P ops Q (o :: rest) a w := by
  refine wpList_plain hg fun K hK' => ?_
  unfold Oper.wp
  simp [execOp, hop, hv]
  exact hK' _ _ hK
theorem conv_bytes {P : Program} {s d e : TypeId} (hs : P.underlying s = some (.slice e)) (he : P.underlying e = some (.int .u8)) (hd : P.underlying d = some .string) (w : World) (n : Int) (ty : TypeId) :
    (convert s d (.slice (some ⟨w.heap.size, 0, none⟩) 1 1)).run P (w.alloc (.cells #[.int .u8 n] ty)) = .ok (.string ⟨#[UInt8.ofNat n.toNat]⟩) (w.alloc (.cells #[.int .u8 n] ty)) := by
  rw [run_convert_bytes_string _ s d e _ 1 1 hs he hd]
  have hh : (w.alloc (.cells #[.int .u8 n] ty)).heap[w.heap.size]? = some (.cells #[.int .u8 n] ty) := Array.getElem?_push_size
  have hload : (loadCells ⟨w.heap.size, 0, none⟩ 1).run P (w.alloc (.cells #[.int .u8 n] ty)) = .ok ([n].map (Value.int .u8)).toArray (w.alloc (.cells #[.int .u8 n] ty)) := by
    refine run_loadCells_list (P := P) (w.alloc (.cells #[.int .u8 n] ty)) ⟨w.heap.size, 0, none⟩ [.int .u8 n] (fun j v hv => ?_)
    cases j with
    | zero => simp at hv; subst hv; rw [Go.Sx.add_at]; unfold World.cell?; simp only [Nat.zero_add]; rw [hh]; rfl
    | succ j => simp at hv
  rw [run_bytesToString _ _ 1 1 [n] hload]
  rfl
theorem tu214 : Try.prog.underlying 214 = some (.slice 5) := by kernel_rfl
theorem tu5 : Try.prog.underlying 5 = some (.int .u8) := by kernel_rfl
theorem tu9 : Try.prog.underlying 9 = some .string := by kernel_rfl
/-- The digits of a number ahead of others. -/
def mtl : Nat → Nat → List UInt8 → List UInt8
  | 0, _, s => s
  | f + 1, n, s => if n = 0 then s else mtl f (n / 10) ((48 + UInt8.ofNat (n % 10)) :: s)
/-- The letter m followed by a number's digits. -/
def mtB (k : Nat) : List UInt8 := 109 :: mtl k k []
theorem push_front (x : UInt8) (l : List UInt8) : ({ data := #[x] } : ByteArray) ++ ⟨l.toArray⟩ = ⟨(x :: l).toArray⟩ := by
  apply ByteArray.ext
  simp
theorem mt_walk (k0 : Nat) (hk : 0 < k0) (hk2 : k0 ≤ 1000000000) (w : World) : Calls Try.prog 202 #[.int .i64 (k0 : Nat)] w fun e w' => e = .returned (.string ⟨(mtB k0).toArray⟩) ∧ Below w.heap.size w w' := by
  go_enter Try.func202, Try.ntmps202
  go_wp2
  rename_i hQ
  rw [decide_eq_false (show ¬ k0 = 0 by omega)]
  go_loopw [0, 3] (fun k o wr => ∃ (n f : Nat) (l : List UInt8), k = .int .i64 n ∧ o = .string ⟨l.toArray⟩ ∧ n ≤ f ∧ mtl f n l = mtl k0 k0 [] ∧ l.length + n ≤ 1000000000 ∧ Below w.heap.size w wr) (fun k _ _ => (intOf k).toNat)
  case atStart => exact ⟨k0, k0, [], rfl, rfl, Nat.le_refl _, rfl, by simpa using hk2, Below.refl _ _⟩
  case round =>
    obtain ⟨n, f, l, rfl, rfl, hf, hmt, hsz, hbel⟩ := hrel
    have hsz2 : (⟨l.toArray⟩ : ByteArray).size + n ≤ 1000000000 := by simpa [ByteArray.size] using hsz
    go_wp2
    · rename_i hn K1 hK1 K2 hK2
      rw [conv_bytes tu214 tu5 tu9]
      simp only [Result.andThen_ok, Oper.upon]
      refine hK2 _ _ ?_
      clear hK2
      go_wp2
      go_roundw
      case rel =>
        obtain ⟨f', rfl⟩ : ∃ f', f = f' + 1 := ⟨f - 1, by omega⟩
        refine ⟨n / 10, f', (48 + UInt8.ofNat (n % 10)) :: l, by go_num, ?_, by omega, ?_, by simp; omega, hbel.alloc (Nat.le_trans hbel.size (Nat.le_refl _)) _⟩
        · rw [push_front]
        · rw [← hmt]
          simp only [mtl]
          rw [if_neg (by omega)]
      case measure => simp [intOf]; omega
    · go_ret
      have hn0 : n = 0 := by omega
      subst hn0
      refine ⟨?_, hbel⟩
      have : mtl f 0 l = l := by cases f <;> simp [mtl]
      rw [this] at hmt
      rw [push_front, mtB, ← hmt]
      rfl
end Go.Proofs.Ytamljpeicecbjaa.Leaf
