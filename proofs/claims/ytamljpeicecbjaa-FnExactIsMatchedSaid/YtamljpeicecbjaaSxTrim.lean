/- Noughts added to a number above nought. No condition. -/
import Derived.Test.YtamljpeicecbjaaSxPart
set_option linter.unusedVariables false
set_option linter.unusedSimpArgs false
noncomputable section
namespace Go.Sx
open Go Ieee

theorem sg0 (b : Bool) (u : Nat) : signed b 0 u = 0 := by cases b <;> simp [signed]
/-- What a word reads as that is no NaN and not below nought. -/
theorem read_le0 {k : FloatKind} {x : Nat} (h : F.le k 0 x = true) : (∃ s m i, k.format.read x = .number s m i ∧ (s = true → m = 0)) ∨ (k.format.read x = .infinity false ∧ x % k.format.signWeight = k.format.infRung) := by
  rw [le0_iff] at h
  cases hr : k.format.read x with
  | number s m i =>
    left
    refine ⟨s, m, i, rfl, fun hs => ?_⟩
    rw [hr] at h
    simpa [okD, hs] using h
  | infinity s =>
    right
    rw [hr] at h
    have hs : s = false := by simpa [okD] using h
    subst hs
    refine ⟨rfl, ?_⟩
    unfold Format.read at hr
    simp only at hr
    split at hr
    · cases hr
    · split at hr
      · cases hr
      · split at hr
        · rename_i h; exact h
        · cases hr
  | nan s t => rw [hr] at h; cases h
/-- A sum of two such numbers is a word of its own, or the other nought. -/
theorem add_word {k : FloatKind} {x y : Nat} (hx : F.le k 0 x = true) (hy : F.le k 0 y = true) : F.add k x y ≤ k.format.infRung ∨ F.add k x y = k.format.signWeight := by
  have inf : ∀ b : Bool, b = false → k.format.write (.infinity b) ≤ k.format.infRung := by
    rintro b rfl
    simp [Format.write, Format.word]
  have near : ∀ (mag : Nat) (e : Int), k.format.nearest false mag e ≤ k.format.infRung := by
    intro mag e
    unfold Format.nearest
    split
    · simp [Format.word]
    · simp only [word_pos]
      exact Nat.min_le_right ..
  rcases read_le0 hx with ⟨s, m, i, h1, h2⟩ | ⟨h1, _⟩ <;> rcases read_le0 hy with ⟨t, n, j, g1, g2⟩ | ⟨g1, _⟩
  · unfold F.add Format.add
    rw [h1, g1]
    simp only [Datum.sum, Option.map_some, Option.getD_some, Format.write]
    have a1 : 0 ≤ signed s m (i - min i j).toNat := okD_signed (by cases s <;> simp_all) _
    have a2 : 0 ≤ signed t n (j - min i j).toNat := okD_signed (by cases t <;> simp_all) _
    generalize signed s m (i - min i j).toNat = A at *
    generalize signed t n (j - min i j).toNat = B at *
    by_cases h0 : A + B = 0
    · rw [h0, if_pos rfl]
      simp only [Format.nearest, Int.natAbs_zero, if_true]
      cases s && t
      · left; simp [Format.word]
      · right; simp [Format.word]
    · rw [if_neg h0, decide_eq_false (show ¬ A + B < 0 by omega)]
      left
      exact near _ _
  · left
    unfold F.add Format.add
    rw [h1, g1]
    exact inf _ rfl
  · left
    unfold F.add Format.add
    rw [h1, g1]
    exact inf _ rfl
  · left
    unfold F.add Format.add
    rw [h1, g1]
    exact inf _ rfl
/-- A word that equals nought reads as a nought. -/
theorem read_eq0 {k : FloatKind} {b : Nat} (h : F.eq k b 0 = true) : ∃ t, k.format.read b = .number t 0 k.format.leastPlace := by
  unfold F.eq Format.order at h
  rw [read_zero] at h
  cases hr : k.format.read b with
  | number t m i =>
    rw [hr] at h
    simp only [Datum.order, sg0] at h
    have hlp : k.format.leastPlace ≤ i := by
      unfold Format.read at hr
      simp only at hr
      split at hr
      · simp only [Datum.number.injEq] at hr; omega
      · split at hr
        · simp only [Datum.number.injEq] at hr; omega
        · split at hr <;> cases hr
    have hz : signed t m (i - min i k.format.leastPlace).toNat = 0 := by
      have h2 : compare (signed t m (i - min i k.format.leastPlace).toNat) 0 = .eq := by simpa using h
      exact Int.compare_eq_eq.1 h2
    have hm : m = 0 := by
      unfold signed at hz
      rw [Nat.shiftLeft_eq] at hz
      have hp : 0 < 2 ^ (i - min i k.format.leastPlace).toNat := Nat.pow_pos (by omega)
      have hz2 : m * 2 ^ (i - min i k.format.leastPlace).toNat = 0 := by
        cases t <;> simp only [Bool.false_eq_true, if_true, if_false] at hz <;> omega
      rcases Nat.mul_eq_zero.1 hz2 with h3 | h3
      · exact h3
      · omega
    subst hm
    refine ⟨t, ?_⟩
    have : i = k.format.leastPlace := by
      unfold Format.read at hr
      simp only at hr
      have hb := binade_pos k.format
      split at hr
      · simp only [Datum.number.injEq] at hr; omega
      · split at hr
        · simp only [Datum.number.injEq] at hr; omega
        · split at hr <;> cases hr
    rw [this]
  | infinity s => rw [hr] at h; simp [Datum.order] at h; cases s <;> simp at h
  | nan s t => rw [hr] at h; simp [Datum.order] at h
/-- Nought, added to a number above nought. -/
theorem add_nought {k : FloatKind} {a b : Nat} (ha : F.le k 0 a = true) (h0 : a % k.format.signWeight ≠ 0) (hb : F.eq k b 0 = true) : F.add k a b = a % k.format.signWeight := by
  obtain ⟨t, hr⟩ := read_eq0 hb
  cases hf : F.fin k a with
  | true =>
    obtain ⟨a1, a2⟩ := read_norm ha hf
    have a3 : k.format.read a = k.format.read (a % k.format.signWeight) := by
      rcases a2 with h | ⟨h, _⟩
      · exact h
      · exact absurd h h0
    have e : F.add k a b = F.add k (a % k.format.signWeight) 0 := by
      obtain ⟨m, i, r1, _⟩ := read_pos k.format a1
      unfold F.add Format.add
      rw [hr, a3, read_zero, r1]
      simp only [Datum.sum, sg0, Bool.false_and]
    rw [e, add_pos a1 (zero_inf k)]
    have e2 : valN k.format 0 = 0 := valN_zero.2 rfl
    rw [e2, Nat.add_zero]
    unfold RgN
    rw [if_neg (fun h => h0 (valN_zero.1 h)), Rg_valN _ h0]
    omega
  | false =>
    rcases read_le0 ha with ⟨s, m, i, h1, _⟩ | ⟨h1, h2⟩
    · exfalso
      unfold F.fin at hf
      rw [h1] at hf
      cases hf
    · rw [h2]
      unfold F.add Format.add
      rw [h1, hr]
      simp [Datum.sum, Format.write, Format.word]
/-! Sums with noughts behind, in terms -/
/-- Is a term a sum of two numbers that are no NaN and not below nought? -/
def sumT (pc : PC) : Tm → Bool
  | .op o a b => match Nat.beq o.n (Opc.fadd .f32).n, nnT pc .f32 a, nnT pc .f32 b with
    | true, true, true => true
    | _, _, _ => false
  | _ => false
theorem sumT_ok {E : Env} {pc : PC} (hp : PcOk E pc) {t : Tm} (h : sumT pc t = true) : F.le .f32 0 (t.den E).toF = true ∧ ∃ x, t.den E = .f x ∧ (x ≤ FloatKind.f32.format.infRung ∨ x = FloatKind.f32.format.signWeight) := by
  unfold sumT at h
  split at h
  · rename_i o a b
    split at h
    · rename_i h1 h2 h3
      have ho : o = .fadd .f32 := Opc.n_inj (Nat.eq_of_beq_eq_true h1)
      subst ho
      exact ⟨add_nn (nnT_ok hp h2) (nnT_ok hp h3), _, rfl, add_word (nnT_ok hp h2) (nnT_ok hp h3)⟩
    · cases h
  · cases h
/-- A summand that is not below nought, in a sum that need not be finite: is the sum above nought? -/
def posS (pc : PC) : Tm → Bool
  | .op o a b => match Nat.beq o.n (Opc.fadd .f32).n, nnT pc .f32 a, nnT pc .f32 b with
    | true, true, true => match posS pc a with
      | true => true
      | false => posS pc b
    | _, _, _ => match decB pc (.op (.flt .f32) (.fl 0) (.op o a b)) with
      | some true => true
      | _ => false
  | t => match decB pc (.op (.flt .f32) (.fl 0) t) with
    | some true => true
    | _ => false
theorem add_nz {x y : Nat} (hx : F.le .f32 0 x = true) (hy : F.le .f32 0 y = true) (h : x % FloatKind.f32.format.signWeight ≠ 0 ∨ y % FloatKind.f32.format.signWeight ≠ 0) : F.add .f32 x y % FloatKind.f32.format.signWeight ≠ 0 := by
  cases hf : F.fin .f32 (F.add .f32 x y) with
  | true =>
    have := add_ge hx hy hf
    omega
  | false =>
    rcases read_le0 (add_nn hx hy) with ⟨s, m, i, h1, _⟩ | ⟨_, h2⟩
    · exfalso
      unfold F.fin at hf
      rw [h1] at hf
      cases hf
    · rw [h2]
      have := zero_inf .f32
      omega
theorem posS_ok {E : Env} {pc : PC} (hp : PcOk E pc) : ∀ {t : Tm}, posS pc t = true → (t.den E).toF % FloatKind.f32.format.signWeight ≠ 0 := by
  have base : ∀ {t : Tm}, decB pc (.op (.flt .f32) (.fl 0) t) = some true → (t.den E).toF % FloatKind.f32.format.signWeight ≠ 0 := fun h => lt_nz (decB_ok hp _ h)
  have base2 : ∀ {t : Tm}, (match decB pc (.op (.flt .f32) (.fl 0) t) with | some true => true | _ => false) = true → (t.den E).toF % FloatKind.f32.format.signWeight ≠ 0 := by
    intro t h
    split at h
    · rename_i hh; exact base hh
    · cases h
  intro t
  induction t with
  | op o a b iha ihb =>
    intro h
    simp only [posS] at h
    split at h
    · rename_i h1 h2 h3
      have ho : o = .fadd .f32 := Opc.n_inj (Nat.eq_of_beq_eq_true h1)
      subst ho
      split at h
      · rename_i h4
        exact add_nz (nnT_ok hp h2) (nnT_ok hp h3) (.inl (iha h4))
      · exact add_nz (nnT_ok hp h2) (nnT_ok hp h3) (.inr (ihb h))
    · exact base2 h
  | _ => intro h; exact base2 h
/-- A sum without the noughts behind. -/
def trim (pc : PC) : Tm → Tm
  | .op o a b => match Nat.beq o.n (Opc.fadd .f32).n, sumT pc a, posS pc a, decB pc (.op (.feq .f32) b (.fl 0)) with
    | true, true, true, some true => trim pc a
    | _, _, _, _ => .op o a b
  | t => t
theorem trim_ok {E : Env} {pc : PC} (hp : PcOk E pc) : ∀ {t : Tm}, (trim pc t).den E = t.den E := by
  intro t
  induction t with
  | op o a b iha _ =>
    simp only [trim]
    split
    · rename_i h1 h2 h3 h4
      have ho : o = .fadd .f32 := Opc.n_inj (Nat.eq_of_beq_eq_true h1)
      subst ho
      rw [iha]
      obtain ⟨g1, x, g2, g3⟩ := sumT_ok hp h2
      have g4 := posS_ok hp h3
      have g5 : F.eq .f32 (b.den E).toF 0 = true := decB_ok hp _ h4
      show a.den E = .f (F.add .f32 (a.den E).toF (b.den E).toF)
      rw [add_nought g1 g4 g5]
      rw [g2] at g4 ⊢
      simp only [Sc.toF_f] at g4 ⊢
      rcases g3 with g3 | g3
      · rw [mod_self g3]
      · exfalso
        rw [g3, Nat.mod_self] at g4
        exact g4 rfl
    · rfl
  | _ => rfl
/-- The word of a number above nought, without its sign, reads as the number does. -/
theorem read_word {k : FloatKind} {a : Nat} (ha : F.le k 0 a = true) (h0 : a % k.format.signWeight ≠ 0) : k.format.read (a % k.format.signWeight) = k.format.read a := by
  cases hf : F.fin k a with
  | true =>
    obtain ⟨_, a2⟩ := read_norm ha hf
    rcases a2 with h | ⟨h, _⟩
    · exact h.symm
    · exact absurd h h0
  | false =>
    rcases read_le0 ha with ⟨s, m, i, h1, _⟩ | ⟨h1, h2⟩
    · exfalso
      unfold F.fin at hf
      rw [h1] at hf
      cases hf
    · rw [h1, h2]
      cases k <;> rfl
/-- Is a sum one number above nought and a nought? Then this number. -/
def oneOf (pc : PC) : Tm → Option Tm
  | .op o a b => match Nat.beq o.n (Opc.fadd .f32).n, nnT pc .f32 a, posS pc a, decB pc (.op (.feq .f32) b (.fl 0)) with
    | true, true, true, some true => some a
    | _, _, _, _ => none
  | _ => none
theorem oneOf_ok {E : Env} {pc : PC} (hp : PcOk E pc) {t a : Tm} (h : oneOf pc t = some a) : FloatKind.f32.format.read (t.den E).toF = FloatKind.f32.format.read (a.den E).toF := by
  unfold oneOf at h
  split at h
  · rename_i o x b
    split at h
    · rename_i h1 h2 h3 h4
      cases h
      have ho : o = .fadd .f32 := Opc.n_inj (Nat.eq_of_beq_eq_true h1)
      subst ho
      have g1 := nnT_ok hp h2
      have g4 := posS_ok hp h3
      have g5 : F.eq .f32 (b.den E).toF 0 = true := decB_ok hp _ h4
      show FloatKind.f32.format.read (F.add .f32 (a.den E).toF (b.den E).toF) = _
      rw [add_nought g1 g4 g5]
      exact read_word g1 g4
    · cases h
  · cases h
/-- A quotient by such a sum. -/
def divOne (pc : PC) : Tm → Tm
  | .op o p s => match Nat.beq o.n (Opc.fdiv .f32).n, oneOf pc s with
    | true, some a => .op o p a
    | _, _ => .op o p s
  | t => t
theorem divOne_ok {E : Env} {pc : PC} (hp : PcOk E pc) {t : Tm} : (divOne pc t).den E = t.den E := by
  unfold divOne
  split
  · rename_i o p s
    split
    · rename_i h1 h2
      have ho : o = .fdiv .f32 := Opc.n_inj (Nat.eq_of_beq_eq_true h1)
      subst ho
      have h3 := oneOf_ok hp h2
      rename_i a
      show Sc.f (F.div .f32 (p.den E).toF (a.den E).toF) = Sc.f (F.div .f32 (p.den E).toF (s.den E).toF)
      unfold F.div Format.div
      rw [h3]
    · rfl
  · rfl
/-- What is known of such a sum. -/
def oneFin (pc : PC) (t : Tm) : PC := match oneOf pc t with
  | some a => match decB pc (.op (.ffin .f32) a .nil) with
    | some true => (.op (.ffin .f32) t .nil, true) :: pc
    | _ => pc
  | none => pc
theorem oneFin_ok {E : Env} {pc : PC} (hp : PcOk E pc) {t : Tm} : PcOk E (oneFin pc t) := by
  unfold oneFin
  split
  · rename_i a h
    split
    · rename_i h2
      refine hp.cons ?_
      have h3 : F.fin .f32 (a.den E).toF = true := decB_ok hp _ h2
      show F.fin .f32 (t.den E).toF = true
      unfold F.fin at h3 ⊢
      rw [oneOf_ok hp h]
      exact h3
    · exact hp
  · exact hp
end Go.Sx
