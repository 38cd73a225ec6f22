/- Loops that find the greatest common divisor: what they compute, and that they end. No condition. -/
import Derived.Test.YtamljpeicecbjaaSxCbrt
set_option linter.unusedVariables false
set_option linter.unusedSimpArgs false
noncomputable section
namespace Go.Sx
open Go
def gcdR (a b : Sc) : Sc × Sc := if b.toI = 0 then (a, b) else (.i (Nat.gcd a.toI.toNat b.toI.toNat : Nat), .i 0)
def gcdF : Sc → Sc
  | .cons a (.cons b r) => .cons (gcdR a b).1 (.cons (gcdR a b).2 r)
  | c => c
theorem gcdF_cons (a b r : Sc) : gcdF (.cons a (.cons b r)) = .cons (gcdR a b).1 (.cons (gcdR a b).2 r) := rfl
def geI (t : Tm) : Tm × Bool := (.op .lei (.il 0) t, true)
def leI (t : Tm) : Tm × Bool := (.op .lei t (.il 1000), true)
def posI (a g : Tm) : Tm × Bool := (.ite (.op .notb (.op .lti (.il 0) a) .nil) (.bl true) (.op .lti (.il 0) g), true)
def Sgcd (k : IntKind) (pl : List Place) (m : Nat) : LoopSpec :=
  { b := 1000, places := pl, N := 70, pre := [geI (.var 1000), leI (.var 1000), geI (.var 1001), leI (.var 1001)], inv := [geI (.var 1000), leI (.var 1000), geI (.var 1001), leI (.var 1001)],
    post := [posI (.var (1002 + m)) (.var 1000), posI (.var (1003 + m)) (.var 1000)],
    cond := .op .eqi (.var 1001) (.il 0), pol := true, next := .var 1001 :: .op (.remi k) (.var 1000) (.var 1001) :: extras m 2, ar := some 2 }
theorem gcd_bd {a b : Sc} (ha : 0 ≤ a.toI) (ha' : a.toI ≤ 1000) (hb : 0 ≤ b.toI) (hb' : b.toI ≤ 1000) :
    0 ≤ (gcdR a b).1.toI ∧ (gcdR a b).1.toI ≤ 1000 ∧ (gcdR a b).2.toI = 0 ∧ (0 < a.toI → 0 < (gcdR a b).1.toI) ∧ (0 < b.toI → 0 < (gcdR a b).1.toI) := by
  unfold gcdR
  split
  · rename_i h; exact ⟨ha, ha', h, fun h => h, fun h' => by omega⟩
  · rename_i h
    have hp : 0 < b.toI.toNat := by omega
    have h1 := Nat.gcd_le_right a.toI.toNat hp
    have h2 := Nat.gcd_pos_of_pos_right a.toI.toNat hp
    simp only [Sc.toI_i]
    exact ⟨by omega, by omega, trivial, fun _ => by omega, fun _ => by omega⟩
theorem gcd_rounds {k : IntKind} {pl : List Place} {m : Nat} {fn : Nat → Sc → Sc} {rest : List Sc} (hr : rest.length = m) : ∀ (n : Nat) (a b : Sc), b.toI.toNat ≤ n → 0 ≤ a.toI → a.toI ≤ 1000 → 0 ≤ b.toI → b.toI ≤ 1000 →
    Rounds (Sgcd k pl m) fn (a :: b :: rest) ((gcdR a b).1 :: (gcdR a b).2 :: rest)
  | n, a, b, hn, ha, ha', hb, hb' => by
    have hinv : PcOk (envV (Sgcd k pl m).b fn (a :: b :: rest)) (Sgcd k pl m).inv := by
      intro p hp
      simp only [Sgcd, List.mem_cons, List.not_mem_nil, or_false] at hp
      rcases hp with rfl | rfl | rfl | rfl
      · exact decide_eq_true ha
      · exact decide_eq_true ha'
      · exact decide_eq_true hb
      · exact decide_eq_true hb'
    have hcond : ((Sgcd k pl m).cond.den (envV (Sgcd k pl m).b fn (a :: b :: rest))).toB = decide (b.toI = 0) := rfl
    by_cases h0 : b.toI = 0
    · have e : gcdR a b = (a, b) := by unfold gcdR; rw [if_pos h0]
      rw [e]
      exact .stop hinv (by rw [hcond, decide_eq_true h0]; rfl)
    · refine .more hinv (by rw [hcond, decide_eq_false h0]; rfl) ?_
      have en : (Sgcd k pl m).next.map (Tm.den (envV (Sgcd k pl m).b fn (a :: b :: rest))) = b :: .i (a.toI.tmod b.toI) :: rest := by
        show _ :: _ :: (extras m 2).map (Tm.den (envV 1000 fn (a :: b :: rest))) = _
        rw [extras_den fn _ m 2 (by simp; omega)]
        rfl
      rw [en]
      obtain ⟨x, hx⟩ : ∃ x : Nat, a.toI = x := ⟨a.toI.toNat, by omega⟩
      obtain ⟨y, hy⟩ : ∃ y : Nat, b.toI = y := ⟨b.toI.toNat, by omega⟩
      have hbi : b = .i b.toI := by cases b <;> first | rfl | exact absurd rfl h0
      have hy0 : 0 < y := by omega
      have ht0 : (x : Int).tmod (y : Int) = ((x % y : Nat) : Int) := (Int.ofNat_tmod x y).symm
      have ht : a.toI.tmod b.toI = ((x % y : Nat) : Int) := by rw [hx, hy]; exact ht0
      have hlt := Nat.mod_lt x hy0
      have hg : Nat.gcd y (x % y) = Nat.gcd x y := by rw [Nat.gcd_comm y, ← Nat.gcd_rec, Nat.gcd_comm]
      have e : gcdR b (.i (a.toI.tmod b.toI)) = gcdR a b := by
        unfold gcdR
        rw [if_neg h0]
        simp only [Sc.toI_i, hx, hy, ht0, Int.toNat_natCast]
        split
        · rename_i h1
          have h2 : x % y = 0 := Int.ofNat.inj h1
          have h3 : Nat.gcd x y = y := by rw [← hg, h2, Nat.gcd_zero_right]
          rw [h3, h2, ← hy, ← hbi]; rfl
        · rw [hg]
      rw [← e]
      cases n with
      | zero => omega
      | succ n => exact gcd_rounds hr n b _ (by simp only [Sc.toI_i, ht]; omega) hb hb' (by simp only [Sc.toI_i, ht]; omega) (by simp only [Sc.toI_i, ht]; omega)
theorem Rounds.keep_ {S : LoopSpec} {fn : Nat → Sc → Sc} {kp : List Place} {v z : List Sc} (h : Rounds S fn v z) : Rounds { S with keep := kp } fn v z := by
  induction h with
  | stop h1 h2 => exact .stop (S := { S with keep := kp }) h1 h2
  | more h1 h2 _ ih => exact .more (S := { S with keep := kp }) h1 h2 ih
/-- What is kept as it is doesn't touch a loop's law. -/
theorem LoopLaw.keep_ {S : LoopSpec} {fn : Nat → Sc → Sc} {kp : List Place} (h : LoopLaw S fn) : LoopLaw { S with keep := kp } fn := fun v hv hp =>
  ⟨Rounds.keep_ (h v hv hp).1, (h v hv hp).2⟩
theorem finK_two {fn : Nat → Sc → Sc} {N : Nat} {a b x y z : Sc} {rest : List Sc} (h : fn N (Sc.ofList [a, b]) = .cons x (.cons y z)) : finK fn N 2 (a :: b :: rest) = x :: y :: rest := by
  refine List.ext_getElem? fun i => ?_
  unfold finK
  rw [List.getElem?_map]
  match i with
  | 0 => simp [h, Sc.at_]
  | 1 => simp [h, Sc.at_]
  | i + 2 =>
    rcases Nat.lt_or_ge i rest.length with hi | hi
    · rw [List.getElem?_range (by simp; omega)]
      simp only [Option.map_some, if_neg (show ¬ i + 2 < 2 by omega), List.getElem?_cons_succ, List.getElem?_eq_getElem hi, Option.getD_some]
    · rw [List.getElem?_eq_none (by simp; omega), List.getElem?_eq_none (by simp; omega)]
      rfl
theorem gcd_law {k : IntKind} {pl : List Place} {m : Nat} (hl : pl.length = m + 2) {fn : Nat → Sc → Sc} (hf : ∀ c, fn 70 c = gcdF c) : LoopLaw (Sgcd k pl m) fn := by
  intro v hv hpre
  have hv' : v.length = m + 2 := hv.trans hl
  obtain ⟨a, b, rest, rfl⟩ : ∃ a b rest, v = a :: b :: rest := by
    cases v with
    | nil => simp at hv'
    | cons b v => cases v with
      | nil => simp at hv'
      | cons x rest => exact ⟨b, x, rest, rfl⟩
  have hr : rest.length = m := by simpa using hv'
  have pre : ∀ p, p ∈ [geI (.var 1000), leI (.var 1000), geI (.var 1001), leI (.var 1001)] → (p.1.den (envV 1000 fn (a :: b :: rest))).toB = p.2 := hpre
  have p1 : 0 ≤ a.toI := of_decide_eq_true (pre (geI (.var 1000)) (by simp))
  have p2 : a.toI ≤ 1000 := of_decide_eq_true (pre (leI (.var 1000)) (by simp))
  have p3 : 0 ≤ b.toI := of_decide_eq_true (pre (geI (.var 1001)) (by simp))
  have p4 : b.toI ≤ 1000 := of_decide_eq_true (pre (leI (.var 1001)) (by simp))
  have g := gcd_rounds (k := k) (pl := pl) (fn := fn) hr b.toI.toNat a b (Nat.le_refl _) p1 p2 p3 p4
  obtain ⟨g1, g2, g3, g4, g5⟩ := gcd_bd p1 p2 p3 p4
  have e : finS (Sgcd k pl m) fn (a :: b :: rest) = (gcdR a b).1 :: (gcdR a b).2 :: rest := finK_two (by
    show fn 70 (Sc.ofList [a, b]) = _
    rw [hf]; exact gcdF_cons ..)
  rw [e]
  refine ⟨g, fun p hp => ?_⟩
  have ev : ∀ (j : Nat) (x : Sc), (a :: b :: rest)[j]? = some x → (Tm.var (1002 + m + j)).den (envV 1000 fn (((gcdR a b).1 :: (gcdR a b).2 :: rest) ++ (a :: b :: rest))) = x := by
    intro j x hx
    simp only [Tm.den, envV]
    rw [if_pos (by omega), show 1002 + m + j - 1000 = ((gcdR a b).1 :: (gcdR a b).2 :: rest).length + j by simp; omega, List.getElem?_append_right (by omega)]
    simp [hx]
  have e0 : (Tm.var 1000).den (envV 1000 fn (((gcdR a b).1 :: (gcdR a b).2 :: rest) ++ (a :: b :: rest))) = (gcdR a b).1 := rfl
  have pos : ∀ (x : Tm) (z : Sc), x.den (envV 1000 fn (((gcdR a b).1 :: (gcdR a b).2 :: rest) ++ (a :: b :: rest))) = z → (0 < z.toI → 0 < (gcdR a b).1.toI) →
      ((posI x (.var 1000)).1.den (envV 1000 fn (((gcdR a b).1 :: (gcdR a b).2 :: rest) ++ (a :: b :: rest)))).toB = true := by
    intro x z hx h
    generalize envV 1000 fn (((gcdR a b).1 :: (gcdR a b).2 :: rest) ++ (a :: b :: rest)) = E' at hx e0 ⊢
    show (if ((Tm.op .notb (.op .lti (.il 0) x) .nil).den E').toB = true then Sc.b true else (Tm.op .lti (.il 0) (.var 1000)).den E').toB = true
    by_cases hz : z.toI ≤ 0
    · have hc : ((Tm.op .notb (.op .lti (.il 0) x) .nil).den E').toB = true := by
        show (!decide (0 < (x.den E').toI)) = true
        rw [hx, decide_eq_false (by omega)]; rfl
      rw [if_pos hc]; rfl
    · have hc : ¬ ((Tm.op .notb (.op .lti (.il 0) x) .nil).den E').toB = true := by
        show ¬ (!decide (0 < (x.den E').toI)) = true
        rw [hx, decide_eq_true (by omega)]; simp
      rw [if_neg hc]
      show decide (0 < ((Tm.var 1000).den E').toI) = true
      rw [e0]
      exact decide_eq_true (h (by omega))
  simp only [Sgcd, List.mem_cons, List.not_mem_nil, or_false] at hp
  rcases hp with rfl | rfl
  · exact pos _ a (ev 0 a rfl) g4
  · exact pos _ b (by have := ev 1 b rfl; rw [show 1002 + m + 1 = 1003 + m by omega] at this; exact this) g5
end Go.Sx
