/- The program's order of beginning, as a list of letters: what the claim's closed facts read of it. No condition. -/
import Derived.Test.YtamljpeicecbjaaGreatProg
import Derived.JoinedOf
namespace Go.Proofs.YtamljpeicecbjaaGreat.Door
set_option linter.unusedVariables false
set_option linter.unusedSimpArgs false
set_option maxRecDepth 100000
def sp : Char := Char.ofNat 32
def one : List Char := [104, 97, 114, 110, 101, 115, 115].map Char.ofNat
def two : List Char := [97, 102, 98, 52, 99, 50, 49, 102, 50, 101, 97, 102, 56, 48, 54, 101, 49, 56, 52, 54, 100, 53, 56, 54, 51, 102, 50, 99, 53, 54, 49, 50, 53, 50, 50, 98, 56, 98, 97, 99, 98, 101, 50, 53, 97, 97, 53, 101, 53, 99, 100, 57, 100, 100, 56, 101, 51, 102, 49, 102, 55, 55, 52, 52].map Char.ofNat
def three : List Char := [99, 117, 116].map Char.ofNat
def rest : List Char := [97, 116, 32, 108, 111, 111, 112, 46, 101, 120, 97, 109, 112, 108, 101, 47, 103, 48, 49, 50, 49, 51, 47, 108, 97, 119, 115, 46, 70, 110, 69, 120, 97, 99, 116, 76, 111, 111, 107, 79, 102, 68, 114, 111, 112, 115, 32, 108, 111, 111, 112, 46, 101, 120, 97, 109, 112, 108, 101, 47, 103, 48, 49, 50, 49, 51, 47, 108, 97, 119, 115, 46, 70, 110, 69, 120, 97, 99, 116, 67, 111, 114, 114, 101, 99, 116, 68, 114, 111, 112, 115, 32, 108, 111, 111, 112, 46, 101, 120, 97, 109, 112, 108, 101, 47, 103, 48, 49, 50, 49, 51, 47, 108, 97, 119, 115, 46, 70, 110, 69, 120, 97, 99, 116, 73, 115, 66, 101, 115, 116, 66, 101, 115, 105, 100, 101, 32, 108, 111, 111, 112, 46, 101, 120, 97, 109, 112, 108, 101, 47, 103, 48, 49, 50, 49, 51, 47, 108, 97, 119, 115, 46, 70, 110, 69, 120, 97, 99, 116, 66, 101, 115, 116, 68, 114, 111, 112, 115, 32, 108, 111, 111, 112, 46, 101, 120, 97, 109, 112, 108, 101, 47, 103, 48, 49, 50, 49, 51, 47, 108, 97, 119, 115, 46, 70, 110, 69, 120, 97, 99, 116, 76, 111, 111, 107, 79, 102, 102, 79, 102, 80, 97, 114, 116, 115, 32, 108, 111, 111, 112, 46, 101, 120, 97, 109, 112, 108, 101, 47, 103, 48, 49, 50, 49, 51, 47, 108, 97, 119, 115, 46, 70, 110, 69, 120, 97, 99, 116, 77, 97, 116, 99, 104, 76, 111, 111, 107].map Char.ofNat
def letters : List Char := one ++ sp :: (two ++ sp :: (three ++ sp :: rest))
theorem ord : Tryz.prog.initOrder.toList = letters := by
  have h : Tryz.prog.initOrder = String.ofList letters := by kernel_rfl
  rw [h, String.toList_ofList]
theorem ws_sp (r : List Char) : wordsSigns (sp :: r) = [] :: wordsSigns r := by
  unfold sp
  rfl
theorem ws_ne {c : Char} (hc : c ≠ sp) (r : List Char) : wordsSigns (c :: r) = match wordsSigns r with | w :: ws => (c :: w) :: ws | [] => [[c]] := by
  conv => lhs; unfold wordsSigns
  split
  · rename_i h; cases h
  · rename_i r' h
    simp only [List.cons.injEq] at h
    exact absurd h.1 hc
  · rename_i c' r' _ h
    simp only [List.cons.injEq] at h
    obtain ⟨rfl, rfl⟩ := h
    rfl
theorem ws_word : ∀ {w : List Char} (r : List Char), (∀ c ∈ w, c ≠ sp) → wordsSigns (w ++ sp :: r) = w :: wordsSigns r
  | [], r, _ => ws_sp r
  | c :: w, r, h => by
    rw [List.cons_append, ws_ne (h c (List.mem_cons_self ..)), ws_word r (fun d hd => h d (List.mem_cons_of_mem _ hd))]
theorem none_of {w : List Char} (h : w.all (fun c => !(Nat.beq c.toNat 32)) = true) : ∀ c ∈ w, c ≠ sp := fun c hc e => by
  have := List.all_eq_true.1 h c hc
  rw [e] at this
  exact absurd this (by decide)
theorem words : wordsSigns Tryz.prog.initOrder.toList = one :: two :: three :: wordsSigns rest := by
  rw [ord]
  unfold letters
  rw [ws_word _ (none_of (by decide +kernel)), ws_word _ (none_of (by decide +kernel)), ws_word _ (none_of (by decide +kernel))]
theorem behind (R : List (List Char)) : behindMainWord (one :: two :: three :: R) = three :: R := by kernel_rfl
theorem head : behindMainWord (wordsSigns Tryz.prog.initOrder.toList) = three :: wordsSigns rest := by rw [words, behind]
theorem may0 (R : List (List Char)) : ((three == "gc".toList || three == "spec".toList) && (R.isEmpty || R.head? == some "stop".toList)) = false := by
  have : (three == "gc".toList || three == "spec".toList) = false := by kernel_rfl
  rw [this]; rfl
theorem may1 (R : List (List Char)) : stripLifts liftWords (three :: R) = ([], three :: R) := by kernel_rfl
theorem may2 : Tryz.prog.laysLater = false := by kernel_rfl
theorem may3 : Tryz.prog.bearsReflect = false := by kernel_rfl
theorem may4 : Tryz.prog.doorFits [] = true := by kernel_rfl
theorem three_cut : (some three == some "cut".toList) = true := by kernel_rfl
theorem may_of (P : Program) (t : List Char) (R : List (List Char)) (h : behindMainWord (wordsSigns P.initOrder.toList) = t :: R) (h1 : stripLifts liftWords (t :: R) = ([], t :: R)) (h2 : P.laysLater = false) (h3 : P.bearsReflect = false) (h4 : P.doorFits [] = true)
    (h5 : (some t == some "cut".toList) = true) : P.mayEnter = true := by
  unfold Program.mayEnter
  rw [h]
  dsimp only
  rw [h1, h2, h3, h4]
  dsimp only
  rw [List.head?_cons, h5]
  simp
theorem lifts_of (P : Program) (t : List Char) (R : List (List Char)) (h : behindMainWord (wordsSigns P.initOrder.toList) = t :: R) (h1 : stripLifts liftWords (t :: R) = ([], t :: R)) (h5 : (some t == some "cut".toList) = true)
    (h6 : (some t == some "carried".toList) = false) : P.liftsFinal = false := by
  unfold Program.liftsFinal Program.headLifts
  rw [h]
  dsimp only
  rw [h1]
  dsimp only
  rw [List.head?_cons, h5, h6]
  simp
theorem mk_of (P : Program) (t : List Char) (R : List (List Char)) (h : behindMainWord (wordsSigns P.initOrder.toList) = t :: R) (h1 : (t == "gc".toList || t == "spec".toList) = false) (h2 : (t == "cut".toList) = true) : P.make = some .cut := by
  unfold Program.make
  rw [h]
  dsimp only
  rw [h1, h2]
  simp
theorem c6 : (some three == some "carried".toList) = false := by kernel_rfl
theorem c1 : (three == "gc".toList || three == "spec".toList) = false := by kernel_rfl
theorem c2 : (three == "cut".toList) = true := by kernel_rfl
theorem may : Tryz.prog.mayEnter = true := may_of _ _ _ head (may1 _) may2 may3 may4 three_cut
theorem lifts : Tryz.prog.liftsFinal = false := lifts_of _ _ _ head (may1 _) three_cut c6
theorem mk : Tryz.prog.make = some .cut := mk_of _ _ _ head c1 c2
end Go.Proofs.YtamljpeicecbjaaGreat.Door
