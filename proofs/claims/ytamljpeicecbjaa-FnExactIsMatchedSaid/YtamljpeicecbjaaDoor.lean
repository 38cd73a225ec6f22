/- The program's order of beginning, as a list of letters: what the claim's closed facts read of it. No condition. -/
import Derived.Test.YtamljpeicecbjaaProg
import Derived.JoinedOf
namespace Go.Proofs.Ytamljpeicecbjaa.Door
set_option linter.unusedVariables false
set_option linter.unusedSimpArgs false
set_option maxRecDepth 100000
def sp : Char := Char.ofNat 32
def one : List Char := [104, 97, 114, 110, 101, 115, 115].map Char.ofNat
def two : List Char := [100, 49, 97, 57, 101, 49, 54, 51, 102, 48, 102, 55, 100, 49, 55, 51, 57, 49, 57, 49, 52, 101, 101, 55, 99, 53, 50, 48, 50, 51, 56, 52, 48, 48, 53, 56, 100, 102, 56, 50, 97, 54, 100, 101, 101, 55, 51, 100, 48, 51, 48, 49, 48, 52, 54, 100, 99, 55, 101, 99, 56, 51, 49, 99].map Char.ofNat
def three : List Char := [99, 117, 116].map Char.ofNat
def rest : List Char := [97, 116, 32, 108, 111, 111, 112, 46, 101, 120, 97, 109, 112, 108, 101, 47, 103, 48, 49, 50, 49, 51, 47, 108, 97, 119, 115, 46, 70, 110, 69, 120, 97, 99, 116, 86, 97, 108, 105, 100, 80, 105, 103, 109, 101, 110, 116, 32, 108, 111, 111, 112, 46, 101, 120, 97, 109, 112, 108, 101, 47, 103, 48, 49, 50, 49, 51, 47, 108, 97, 119, 115, 46, 70, 110, 69, 120, 97, 99, 116, 83, 97, 109, 101, 83, 104, 101, 108, 102, 32, 108, 111, 111, 112, 46, 101, 120, 97, 109, 112, 108, 101, 47, 103, 48, 49, 50, 49, 51, 47, 108, 97, 119, 115, 46, 70, 110, 69, 120, 97, 99, 116, 86, 97, 108, 105, 100, 83, 104, 101, 108, 102, 32, 108, 111, 111, 112, 46, 101, 120, 97, 109, 112, 108, 101, 47, 103, 48, 49, 50, 49, 51, 47, 108, 97, 119, 115, 46, 70, 110, 69, 120, 97, 99, 116, 70, 105, 110, 100, 80, 105, 103, 109, 101, 110, 116, 32, 108, 111, 111, 112, 46, 101, 120, 97, 109, 112, 108, 101, 47, 103, 48, 49, 50, 49, 51, 47, 108, 97, 119, 115, 46, 70, 110, 69, 120, 97, 99, 116, 69, 118, 101, 110, 80, 97, 114, 116, 115, 32, 108, 111, 111, 112, 46, 101, 120, 97, 109, 112, 108, 101, 47, 103, 48, 49, 50, 49, 51, 47, 108, 97, 119, 115, 46, 70, 110, 69, 120, 97, 99, 116, 86, 97, 108, 105, 100, 68, 114, 111, 112, 115, 32, 108, 111, 111, 112, 46, 101, 120, 97, 109, 112, 108, 101, 47, 103, 48, 49, 50, 49, 51, 47, 108, 97, 119, 115, 46, 70, 110, 69, 120, 97, 99, 116, 67, 111, 115, 116, 79, 102, 68, 114, 111, 112, 115, 32, 108, 111, 111, 112, 46, 101, 120, 97, 109, 112, 108, 101, 47, 103, 48, 49, 50, 49, 51, 47, 108, 97, 119, 115, 46, 70, 110, 69, 120, 97, 99, 116, 84, 105, 109, 101, 115, 73, 110, 84, 105, 110, 115, 32, 108, 111, 111, 112, 46, 101, 120, 97, 109, 112, 108, 101, 47, 103, 48, 49, 50, 49, 51, 47, 108, 97, 119, 115, 46, 70, 110, 69, 120, 97, 99, 116, 80, 97, 114, 116, 115, 79, 102, 32, 108, 111, 111, 112, 46, 101, 120, 97, 109, 112, 108, 101, 47, 103, 48, 49, 50, 49, 51, 47, 108, 97, 119, 115, 46, 70, 110, 69, 120, 97, 99, 116, 82, 101, 100, 117, 99, 101, 68, 114, 111, 112, 115, 32, 108, 111, 111, 112, 46, 101, 120, 97, 109, 112, 108, 101, 47, 103, 48, 49, 50, 49, 51, 47, 108, 97, 119, 115, 46, 70, 110, 69, 120, 97, 99, 116, 65, 100, 100, 68, 114, 111, 112, 115, 32, 108, 111, 111, 112, 46, 101, 120, 97, 109, 112, 108, 101, 47, 103, 48, 49, 50, 49, 51, 47, 108, 97, 119, 115, 46, 70, 110, 69, 120, 97, 99, 116, 83, 99, 97, 108, 101, 68, 114, 111, 112, 115, 32, 108, 111, 111, 112, 46, 101, 120, 97, 109, 112, 108, 101, 47, 103, 48, 49, 50, 49, 51, 47, 108, 97, 119, 115, 46, 70, 110, 69, 120, 97, 99, 116, 83, 104, 105, 102, 116, 80, 97, 114, 116, 115, 32, 108, 111, 111, 112, 46, 101, 120, 97, 109, 112, 108, 101, 47, 103, 48, 49, 50, 49, 51, 47, 108, 97, 119, 115, 46, 70, 110, 69, 120, 97, 99, 116, 77, 105, 120, 80, 97, 114, 116, 115, 32, 108, 111, 111, 112, 46, 101, 120, 97, 109, 112, 108, 101, 47, 103, 48, 49, 50, 49, 51, 47, 108, 97, 119, 115, 46, 70, 110, 69, 120, 97, 99, 116, 70, 105, 108, 108, 84, 105, 110, 32, 108, 111, 111, 112, 46, 101, 120, 97, 109, 112, 108, 101, 47, 103, 48, 49, 50, 49, 51, 47, 108, 97, 119, 115, 46, 70, 110, 69, 120, 97, 99, 116, 65, 114, 101, 80, 97, 105, 114, 32, 108, 111, 111, 112, 46, 101, 120, 97, 109, 112, 108, 101, 47, 103, 48, 49, 50, 49, 51, 47, 108, 97, 119, 115, 46, 70, 110, 69, 120, 97, 99, 116, 77, 105, 120, 68, 114, 111, 112, 115, 32, 108, 111, 111, 112, 46, 101, 120, 97, 109, 112, 108, 101, 47, 103, 48, 49, 50, 49, 51, 47, 108, 97, 119, 115, 46, 70, 110, 69, 120, 97, 99, 116, 68, 114, 111, 112, 115, 66, 101, 115, 105, 100, 101, 32, 108, 111, 111, 112, 46, 101, 120, 97, 109, 112, 108, 101, 47, 103, 48, 49, 50, 49, 51, 47, 108, 97, 119, 115, 46, 70, 110, 69, 120, 97, 99, 116, 84, 97, 107, 101, 68, 114, 111, 112, 115, 32, 108, 111, 111, 112, 46, 101, 120, 97, 109, 112, 108, 101, 47, 103, 48, 49, 50, 49, 51, 47, 108, 97, 119, 115, 46, 70, 110, 69, 120, 97, 99, 116, 68, 114, 111, 112, 115, 70, 111, 114, 32, 108, 111, 111, 112, 46, 101, 120, 97, 109, 112, 108, 101, 47, 103, 48, 49, 50, 49, 51, 47, 108, 97, 119, 115, 46, 70, 110, 69, 120, 97, 99, 116, 78, 101, 97, 114, 101, 115, 116, 80, 105, 103, 109, 101, 110, 116, 32, 108, 111, 111, 112, 46, 101, 120, 97, 109, 112, 108, 101, 47, 103, 48, 49, 50, 49, 51, 47, 108, 97, 119, 115, 46, 70, 110, 69, 120, 97, 99, 116, 87, 111, 114, 115, 116, 76, 105, 103, 104, 116, 32, 108, 111, 111, 112, 46, 101, 120, 97, 109, 112, 108, 101, 47, 103, 48, 49, 50, 49, 51, 47, 108, 97, 119, 115, 46, 70, 110, 69, 120, 97, 99, 116, 85, 110, 108, 105, 107, 101, 85, 110, 100, 101, 114, 32, 108, 111, 111, 112, 46, 101, 120, 97, 109, 112, 108, 101, 47, 103, 48, 49, 50, 49, 51, 47, 108, 97, 119, 115, 46, 70, 110, 69, 120, 97, 99, 116, 67, 117, 114, 118, 101, 79, 102, 80, 97, 114, 116, 115, 32, 108, 111, 111, 112, 46, 101, 120, 97, 109, 112, 108, 101, 47, 103, 48, 49, 50, 49, 51, 47, 108, 97, 119, 115, 46, 70, 110, 69, 120, 97, 99, 116, 80, 97, 105, 110, 116, 79, 102, 32, 108, 111, 111, 112, 46, 101, 120, 97, 109, 112, 108, 101, 47, 103, 48, 49, 50, 49, 51, 47, 108, 97, 119, 115, 46, 70, 110, 69, 120, 97, 99, 116, 76, 97, 100, 100, 101, 114, 79, 102, 32, 108, 111, 111, 112, 46, 101, 120, 97, 109, 112, 108, 101, 47, 103, 48, 49, 50, 49, 51, 47, 108, 97, 119, 115, 46, 70, 110, 69, 120, 97, 99, 116, 79, 102, 102, 79, 102, 80, 97, 114, 116, 115, 32, 108, 111, 111, 112, 46, 101, 120, 97, 109, 112, 108, 101, 47, 103, 48, 49, 50, 49, 51, 47, 108, 97, 119, 115, 46, 70, 110, 69, 120, 97, 99, 116, 79, 102, 102, 79, 102, 68, 114, 111, 112, 115, 32, 108, 111, 111, 112, 46, 101, 120, 97, 109, 112, 108, 101, 47, 103, 48, 49, 50, 49, 51, 47, 108, 97, 119, 115, 46, 70, 110, 69, 120, 97, 99, 116, 73, 115, 77, 97, 116, 99, 104, 101, 100, 32, 108, 111, 111, 112, 46, 101, 120, 97, 109, 112, 108, 101, 47, 103, 48, 49, 50, 49, 51, 47, 108, 97, 119, 115, 46, 70, 110, 69, 120, 97, 99, 116, 77, 97, 116, 99, 104, 67, 117, 114, 118, 101].map Char.ofNat
def letters : List Char := one ++ sp :: (two ++ sp :: (three ++ sp :: rest))
theorem ord : Try.prog.initOrder.toList = letters := by
  have h : Try.prog.initOrder = String.ofList letters := by kernel_rfl
  rw [h, String.toList_ofList]
theorem ws_sp (r : List Char) : wordsSigns (sp :: r) = [] :: wordsSigns r := by
  unfold sp
  rfl
theorem ws_ne {c : Char} (hc : c ≠ sp) (r : List Char) : wordsSigns (c :: r) = match wordsSigns r with | w :: ws => (c :: w) :: ws | [] => [[c]] := by
  conv => lhs; unfold wordsSigns
  split
  · rename_i h; cases h
  · rename_i r' h
    simp only [List.cons.injEq] at h
    exact absurd h.1 hc
  · rename_i c' r' _ h
    simp only [List.cons.injEq] at h
    obtain ⟨rfl, rfl⟩ := h
    rfl
theorem ws_word : ∀ {w : List Char} (r : List Char), (∀ c ∈ w, c ≠ sp) → wordsSigns (w ++ sp :: r) = w :: wordsSigns r
  | [], r, _ => ws_sp r
  | c :: w, r, h => by
    rw [List.cons_append, ws_ne (h c (List.mem_cons_self ..)), ws_word r (fun d hd => h d (List.mem_cons_of_mem _ hd))]
theorem none_of {w : List Char} (h : w.all (fun c => !(Nat.beq c.toNat 32)) = true) : ∀ c ∈ w, c ≠ sp := fun c hc e => by
  have := List.all_eq_true.1 h c hc
  rw [e] at this
  exact absurd this (by decide)
theorem words : wordsSigns Try.prog.initOrder.toList = one :: two :: three :: wordsSigns rest := by
  rw [ord]
  unfold letters
  rw [ws_word _ (none_of (by decide +kernel)), ws_word _ (none_of (by decide +kernel)), ws_word _ (none_of (by decide +kernel))]
theorem behind (R : List (List Char)) : behindMainWord (one :: two :: three :: R) = three :: R := by kernel_rfl
theorem head : behindMainWord (wordsSigns Try.prog.initOrder.toList) = three :: wordsSigns rest := by rw [words, behind]
theorem may0 (R : List (List Char)) : ((three == "gc".toList || three == "spec".toList) && (R.isEmpty || R.head? == some "stop".toList)) = false := by
  have : (three == "gc".toList || three == "spec".toList) = false := by kernel_rfl
  rw [this]; rfl
theorem may1 (R : List (List Char)) : stripLifts liftWords (three :: R) = ([], three :: R) := by kernel_rfl
theorem may2 : Try.prog.laysLater = false := by kernel_rfl
theorem may3 : Try.prog.bearsReflect = false := by kernel_rfl
theorem may4 : Try.prog.doorFits [] = true := by kernel_rfl
theorem three_cut : (some three == some "cut".toList) = true := by kernel_rfl
theorem may_of (P : Program) (t : List Char) (R : List (List Char)) (h : behindMainWord (wordsSigns P.initOrder.toList) = t :: R) (h1 : stripLifts liftWords (t :: R) = ([], t :: R)) (h2 : P.laysLater = false) (h3 : P.bearsReflect = false) (h4 : P.doorFits [] = true)
    (h5 : (some t == some "cut".toList) = true) : P.mayEnter = true := by
  unfold Program.mayEnter
  rw [h]
  dsimp only
  rw [h1, h2, h3, h4]
  dsimp only
  rw [List.head?_cons, h5]
  simp
theorem lifts_of (P : Program) (t : List Char) (R : List (List Char)) (h : behindMainWord (wordsSigns P.initOrder.toList) = t :: R) (h1 : stripLifts liftWords (t :: R) = ([], t :: R)) (h5 : (some t == some "cut".toList) = true)
    (h6 : (some t == some "carried".toList) = false) : P.liftsFinal = false := by
  unfold Program.liftsFinal Program.headLifts
  rw [h]
  dsimp only
  rw [h1]
  dsimp only
  rw [List.head?_cons, h5, h6]
  simp
theorem mk_of (P : Program) (t : List Char) (R : List (List Char)) (h : behindMainWord (wordsSigns P.initOrder.toList) = t :: R) (h1 : (t == "gc".toList || t == "spec".toList) = false) (h2 : (t == "cut".toList) = true) : P.make = some .cut := by
  unfold Program.make
  rw [h]
  dsimp only
  rw [h1, h2]
  simp
theorem c6 : (some three == some "carried".toList) = false := by kernel_rfl
theorem c1 : (three == "gc".toList || three == "spec".toList) = false := by kernel_rfl
theorem c2 : (three == "cut".toList) = true := by kernel_rfl
theorem may : Try.prog.mayEnter = true := may_of _ _ _ head (may1 _) may2 may3 may4 three_cut
theorem lifts : Try.prog.liftsFinal = false := lifts_of _ _ _ head (may1 _) three_cut c6
theorem mk : Try.prog.make = some .cut := mk_of _ _ _ head c1 c2
end Go.Proofs.Ytamljpeicecbjaa.Door
