/- The contracts of the functions that the executor doesn't go through by itself. No condition. -/
import Derived.Test.YtamljpeicecbjaaAbs
import Derived.Test.YtamljpeicecbjaaName
import Derived.Test.YtamljpeicecbjaaSxLaw
namespace Go.Proofs.Ytamljpeicecbjaa.Leaf
open Go.Sx
set_option linter.unusedVariables false
set_option linter.unusedSimpArgs false
set_option maxRecDepth 100000

noncomputable def F : Nat → Sc → Sc := fun k c => match k with
  | 0 => .b (nameF c.toS)
  | k => if k = 900 then F900 c else .nil
theorem F900_ok : ∀ c, F 900 c = F900 c := fun c => by simp [F]
def nonfinS : Sum := sumS [.float .f32] .bool fun ts => mkNot (mkOp (.ffin .f32) (ts.headD .nil) .nil)
def finS : Sum := sumS [.float .f32] .bool fun ts => mkOp (.ffin .f32) (ts.headD .nil) .nil
def cx : Ctx := fun f =>
  match Nat.beq f 197 with
  | true => some nonfinS
  | false => match Nat.beq f 151 with
    | true => some finS
    | false => match Nat.beq f 120 with
      | true => some nameC
      | false => match Nat.beq f 186 with
        | true => some nameC
        | false => match Nat.beq f 223 with
          | true => some absS
          | false => none
theorem cx_ok : ∀ E : Env, E.fn = F → CtxOk Try.prog E cx ∧ CtxPc E cx := by
  intro E hE
  have h0 : ∀ c, E.fn 0 c = .b (nameF c.toS) := fun c => by rw [hE]; rfl
  refine ⟨fun f S h => ?_, fun f S h => ?_⟩
  · unfold cx at h
    split at h
    · rename_i hf; cases h; rw [Nat.eq_of_beq_eq_true hf]; exact nonfin_ok E
    · split at h
      · rename_i hf; cases h; rw [Nat.eq_of_beq_eq_true hf]; exact fin_ok E
      · split at h
        · rename_i hf; cases h; rw [Nat.eq_of_beq_eq_true hf]; exact nameC_ok h0 ⟨_, Try.func120, by kernel_rfl⟩ name_walk
        · split at h
          · rename_i hf; cases h; rw [Nat.eq_of_beq_eq_true hf]; exact nameC_ok h0 ⟨_, Try.func186, by kernel_rfl⟩ name2_walk
          · split at h
            · rename_i hf; cases h; rw [Nat.eq_of_beq_eq_true hf]; exact abs_ok E
            · cases h
  · unfold cx at h
    split at h
    · cases h; exact fun args m pc hp => sumS_pc args m pc hp
    · split at h
      · cases h; exact fun args m pc hp => sumS_pc args m pc hp
      · split at h
        · cases h; exact fun args m pc hp => nameC_pc args m pc hp
        · split at h
          · cases h; exact fun args m pc hp => nameC_pc args m pc hp
          · split at h
            · cases h; exact fun args m pc hp => sumS_pc args m pc hp
            · cases h
end Go.Proofs.Ytamljpeicecbjaa.Leaf
