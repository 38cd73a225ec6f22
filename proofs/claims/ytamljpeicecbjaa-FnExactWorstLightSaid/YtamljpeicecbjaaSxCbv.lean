/- The third root as two programs write it: one value. No condition. -/
import Derived.Test.YtamljpeicecbjaaSxCbrt
import Derived.Test.YtamljpeicecbjaaSxFin
import Derived.Test.YtamljpeicecbjaaSxRes
set_option linter.unusedVariables false
set_option linter.unusedSimpArgs false
noncomputable section
namespace Go.Sx
open Go Ieee

theorem num0 {a : Nat} {s : Bool} {m : Nat} {e : Int} (hr : single.read a = .number s m e) : F.eq .f32 a 0 = (m == 0) ∧ F.lt .f32 a 0 = (s && !(m == 0)) := by
  have h0 : FloatKind.f32.format.read 0 = .number false 0 FloatKind.f32.format.leastPlace := read_zero .f32
  have hr' : FloatKind.f32.format.read a = .number s m e := hr
  unfold F.eq F.lt Format.order
  rw [hr', h0]
  have e0 : ∀ u : Nat, signed false 0 u = 0 := fun u => by simp [signed]
  simp only [Datum.order, e0]
  generalize (e - min e FloatKind.f32.format.leastPlace).toNat = u
  cases m with
  | zero =>
    have : signed s 0 u = 0 := by simp [signed]
    rw [this]
    cases s <;> decide
  | succ m =>
    have hp : 0 < (m + 1) <<< u := by rw [Nat.shiftLeft_eq]; exact Nat.mul_pos (Nat.succ_pos m) (Nat.pow_pos (by decide))
    cases s
    · have hl : 0 < signed false (m + 1) u := by simp only [signed, Bool.false_eq_true, if_false]; omega
      have : compare (signed false (m + 1) u) 0 = .gt := by rw [Int.compare_eq_gt]; exact hl
      rw [this]
      constructor <;> rfl
    · have hl : signed true (m + 1) u < 0 := by simp only [signed, if_true]; omega
      have : compare (signed true (m + 1) u) 0 = .lt := by rw [Int.compare_eq_lt]; exact hl
      rw [this]
      constructor <;> rfl
theorem cv_top : Nat.ble (RgN double (2 ^ 24 * 2 ^ (104 + 1074)) (-1074)) cmax = true := by kernel_rfl
theorem cv_low : Nat.ble cmin (RgN double (2 ^ (1074 - 149)) (-1074)) = true := by kernel_rfl
theorem cv_fin {a : Nat} (hf : F.fin .f32 a = true) : ∃ s z, F.conv .f32 .f64 a = double.word s z ∧ z ≤ cmax ∧ (F.eq .f32 a 0 = false → cmin ≤ z ∧ F.lt .f32 a 0 = s) := by
  unfold F.fin at hf
  cases hr : FloatKind.f32.format.read a with
  | infinity s => rw [hr] at hf; cases hf
  | nan s t => rw [hr] at hf; cases hf
  | number s m e =>
    obtain ⟨h1, h2, h3⟩ := single_read a hr
    obtain ⟨n1, n2⟩ := num0 (a := a) hr
    have hz : double.nearest false m e = RgN double (m * 2 ^ (e - (-1074)).toNat) (-1074) := nearest_RgN double (b := -1074) (by omega) (by decide)
    refine ⟨s, double.nearest false m e, ?_, ?_, fun h0 => ?_⟩
    · unfold F.conv
      simp only [reduceCtorEq, if_false]
      show (match single.read a with
        | .nan _ _ => nanOf .f64
        | y => double.write y) = _
      rw [show single.read a = .number s m e from hr]
      exact nearest_neg double s m e
    · rw [hz]
      refine Nat.le_trans (RgN_mono double (by decide) ?_) (Nat.le_of_ble_eq_true cv_top)
      have hp : (e - (-1074)).toNat ≤ 104 + 1074 := by omega
      generalize (e - (-1074)).toNat = u at hp
      generalize 104 + 1074 = w at hp
      exact Nat.mul_le_mul (Nat.le_of_lt h1) (Nat.pow_le_pow_right (by omega) hp)
    · have hm : m ≠ 0 := by
        rintro rfl
        rw [n1] at h0
        cases h0
      refine ⟨?_, ?_⟩
      · rw [hz]
        refine Nat.le_trans (Nat.le_of_ble_eq_true cv_low) (RgN_mono double (by decide) ?_)
        have hp : 1074 - 149 ≤ (e - (-1074)).toNat := by omega
        generalize (e - (-1074)).toNat = u at hp
        generalize 1074 - 149 = w at hp
        exact Nat.le_trans (Nat.pow_le_pow_right (by omega) hp) (Nat.le_mul_of_pos_left _ (Nat.pos_of_ne_zero hm))
      · rw [n2]
        have : (m == 0) = false := by simpa using hm
        rw [this]; simp
theorem abs_word {s : Bool} {z : Nat} (h : z < double.infRung) : F.abs .f64 (double.word s z) = z := by
  have hs := inf_lt_sign double
  obtain ⟨m, e, h1, _, _⟩ := read_pos double h
  have hn : isNan .f64 (double.word s z) = false := by
    unfold isNan
    cases s
    · rw [word_pos]
      rw [show FloatKind.f64.format.read z = .number false m e from h1]; rfl
    · rw [show FloatKind.f64.format.read (double.word true z) = .number true m e from read_neg (k := .f64) h h1]; rfl
  unfold F.abs
  rw [hn]
  simp only [Bool.false_eq_true, if_false]
  show double.word s z % double.signWeight = z
  cases s
  · rw [word_pos]; exact Nat.mod_eq_of_lt (by omega)
  · have e0 : double.word true z = double.signWeight + z := by simp [Format.word]
    rw [e0, Nat.add_mod_left]; exact Nat.mod_eq_of_lt (by omega)
theorem neg_word {z : Nat} (h : z < double.infRung) : F.neg .f64 (double.word true z) = z := by
  have hs := inf_lt_sign double
  have e0 : double.word true z = 2 ^ 63 + z := by
    have : double.signWeight = 2 ^ 63 := by decide
    simp [Format.word, this]
  have hz : z < 2 ^ 63 := by
    have : double.signWeight = 2 ^ 63 := by decide
    omega
  have e1 : Op.negFloat .f64 (double.word true z) = z := by
    unfold Op.negFloat
    show double.word true z ^^^ 2 ^ 63 = z
    rw [e0, ← xor_top hz, Nat.xor_assoc, Nat.xor_self, Nat.xor_zero]
  unfold F.neg
  rw [e1]
  obtain ⟨m, e, h1, _, _⟩ := read_pos double h
  refine canon_not .f64 _ ?_
  unfold isNan
  rw [show FloatKind.f64.format.read z = .number false m e from h1]
  rfl

/-! The terms -/
def cvA : Tm := .op (.conv .f32 .f64) (.var 0) .nil
def isNg : Tm := .op (.flt .f32) (.var 0) (.fl 0)
def is0 : Tm := .op (.feq .f32) (.var 0) (.fl 0)
/-- The number without its sign, as the reference and as the program write it. -/
def b0S : Tm := .ite isNg (.op (.fneg .f64) cvA .nil) cvA
def b0I : Tm := .op (.fabs .f64) cvA .nil
def pcCb (b0 : Tm) : PC := [(.op (.ffin .f32) (.var 0) .nil, true), (.ite is0 (.bl true) (leW b0 cmax).1, true), (.ite is0 (.bl true) (geW cmin b0).1, true)]
def cbU (b0 : Tm) : Tm := .app 30 (listT [b0, .fl c1, .var 0])
def cbD (b0 : Tm) : Tm := .app 31 (listT [.nth 0 (cbU b0), .nth 1 (cbU b0), .var 0])
def cbN (b0 : Tm) : Tm := .app 32 (listT [.fl c15, .il 0, .nth 0 (cbD b0), .nth 1 (cbD b0), .var 0])
def cbY (b0 : Tm) : Tm := .op (.fmul .f64) (.nth 0 (cbN b0)) (.nth 1 (cbD b0))
def CBs : Tm := .ite is0 (listT [.fl 0, .il 0]) (listT [.ite isNg (.op (.fneg .f32) (.op (.conv .f64 .f32) (cbY b0S) .nil) .nil) (.op (.conv .f64 .f32) (cbY b0S) .nil), .il 0])
def CBi : Tm := listT [.ite is0 (.fl 0) (.ite isNg (.op (.conv .f64 .f32) (.op (.fneg .f64) (cbY b0I) .nil) .nil) (.op (.conv .f64 .f32) (cbY b0I) .nil))]

section
variable {E : Env}
theorem b0_eq (hf : F.fin .f32 (E.v 0).toF = true) (h0 : (is0.den E).toB = false) : ∃ z, b0S.den E = .f z ∧ b0I.den E = .f z ∧ cmin ≤ z ∧ z ≤ cmax := by
  obtain ⟨s, z, h1, h2, h3⟩ := cv_fin hf
  obtain ⟨h4, h5⟩ := h3 h0
  have hz : z < double.infRung := Nat.lt_of_le_of_lt h2 (by decide)
  have hc : cvA.den E = .f (double.word s z) := by
    show Sc.f (F.conv .f32 .f64 (E.v 0).toF) = _
    rw [h1]
  have hng : (isNg.den E).toB = s := h5
  refine ⟨z, ?_, ?_, h4, h2⟩
  · simp only [b0S, Tm.den, hng, hc]
    cases s
    · simp only [Bool.false_eq_true, if_false]; rw [word_pos]
    · simp only [if_true, Opc.den, Sc.toF_f]; rw [neg_word hz]
  · simp only [b0I, Tm.den, hc, Opc.den, Sc.toF_f]
    rw [abs_word hz]
theorem pcCb_ok (hf : F.fin .f32 (E.v 0).toF = true) : PcOk E (pcCb b0S) ∧ PcOk E (pcCb b0I) := by
  have key : ∀ b0 : Tm, ((is0.den E).toB = false → ∃ z, b0.den E = .f z ∧ cmin ≤ z ∧ z ≤ cmax) → PcOk E (pcCb b0) := by
    intro b0 h p hp
    rcases List.mem_cons.1 hp with rfl | hp
    · exact hf
    · have one : ∀ q : Tm × Bool, ((is0.den E).toB = false → (q.1.den E).toB = true) → ((Tm.ite is0 (.bl true) q.1).den E).toB = true := by
        intro q hq
        simp only [Tm.den]
        cases hc : (is0.den E).toB with
        | true => rfl
        | false => simp only [Bool.false_eq_true, if_false]; exact hq hc
      rcases List.mem_cons.1 hp with rfl | hp
      · refine one (leW b0 cmax) fun h0 => ?_
        obtain ⟨z, e, _, h2⟩ := h h0
        exact leW_iff.2 (by rw [e]; exact h2)
      · rcases List.mem_cons.1 hp with rfl | hp
        · refine one (geW cmin b0) fun h0 => ?_
          obtain ⟨z, e, h1, _⟩ := h h0
          exact geW_iff.2 (by rw [e]; exact h1)
        · cases hp
  exact ⟨key _ fun h0 => by obtain ⟨z, e, _, h1, h2⟩ := b0_eq hf h0; exact ⟨z, e, h1, h2⟩, key _ fun h0 => by obtain ⟨z, _, e, h1, h2⟩ := b0_eq hf h0; exact ⟨z, e, h1, h2⟩⟩
/-- The product that is made single is not great. -/
theorem y_le (h30 : ∀ c, E.fn 30 c = upF c) (h31 : ∀ c, E.fn 31 c = dnF c) (h32 : ∀ c, E.fn 32 c = nwF c) {b0 : Tm} (h1 : cmin ≤ (b0.den E).toF) (h2 : (b0.den E).toF ≤ cmax) : ((cbY b0).den E).toF ≤ F.mul .f64 c64 x43 := by
  have eU : (cbU b0).den E = .cons (upR (b0.den E) (.f c1)).1 (.cons (upR (b0.den E) (.f c1)).2 (.cons (E.v 0) .nil)) := by
    show E.fn 30 _ = _
    rw [h30]; rfl
  obtain ⟨g1, g2⟩ := up_rounds (pl := []) (m := 1) (fn := E.fn) (rest := [E.v 0]) rfl 42 0 (b0.den E) (.f c1) rfl h2 h1 rfl
  obtain ⟨g3, _⟩ := g1.end_
  have k1 := geW_iff.1 (g3 _ (List.mem_cons_self ..))
  have k2 := leW_iff.1 (g3 _ (List.mem_cons_of_mem _ (List.mem_cons_self ..)))
  have k1 : cmin ≤ (upR (b0.den E) (.f c1)).1.toF := k1
  have k2 : (upR (b0.den E) (.f c1)).2.toF ≤ x43 := k2
  have g2 : (upR (b0.den E) (.f c1)).1.toF ≤ c8 - 1 := g2
  generalize hb1 : (upR (b0.den E) (.f c1)).1 = B1 at *
  generalize hx1 : (upR (b0.den E) (.f c1)).2 = X1 at *
  have eD : (cbD b0).den E = .cons (dnR B1 X1).1 (.cons (dnR B1 X1).2 (.cons (E.v 0) .nil)) := by
    show E.fn 31 (.cons (((cbU b0).den E).at_ 0) (.cons (((cbU b0).den E).at_ 1) (.cons (E.v 0) .nil))) = _
    rw [h31, eU]; rfl
  obtain ⟨r1, r2⟩ := dn_rounds (pl := []) (m := 1) (fn := E.fn) (rest := [E.v 0]) rfl 50 0 B1 X1 rfl k1 g2 k2
  obtain ⟨r3, _⟩ := r1.end_
  have q1 := leW_iff.1 (r3 _ (List.mem_cons_self ..))
  have q2 := leW_iff.1 (r3 _ (List.mem_cons_of_mem _ (List.mem_cons_self ..)))
  have q1 : (dnR B1 X1).1.toF ≤ c8 - 1 := q1
  have q2 : (dnR B1 X1).2.toF ≤ x43 := q2
  have r2 : c1 ≤ (dnR B1 X1).1.toF := r2
  generalize hb2 : (dnR B1 X1).1 = B2 at *
  generalize hx2 : (dnR B1 X1).2 = X2 at *
  have eN : (cbN b0).den E = .cons (nwR (.f c15) (.i 0) B2).1 (.cons (nwR (.f c15) (.i 0) B2).2 (.cons B2 (.cons X2 (.cons (E.v 0) .nil)))) := by
    show E.fn 32 (.cons (.f c15) (.cons (.i 0) (.cons (((cbD b0).den E).at_ 0) (.cons (((cbD b0).den E).at_ 1) (.cons (E.v 0) .nil))))) = _
    rw [h32, eD]; rfl
  have hr : (nwR (.f c15) (.i 0) B2).1.toF ≤ c64 := by
    rw [nwR, nw_r]
    exact newt6_le r2 (Nat.lt_of_le_of_lt q1 (by decide))
  have eY : ((cbY b0).den E).toF = F.mul .f64 (nwR (.f c15) (.i 0) B2).1.toF X2.toF := by
    show F.mul .f64 (((cbN b0).den E).at_ 0).toF (((cbD b0).den E).at_ 1).toF = _
    rw [eN, eD]; rfl
  rw [eY]
  exact mul_bits (k := .f64) hr q2 (by rw [infD_eq]; decide) (by rw [infD_eq]; decide)
theorem cbY_eq {b b' : Tm} (h : b.den E = b'.den E) : (cbY b).den E = (cbY b').den E := by
  have hU : (cbU b).den E = (cbU b').den E := by simp only [cbU, listT, Tm.den, h]
  have hD : (cbD b).den E = (cbD b').den E := by simp only [cbD, listT, Tm.den, hU]
  have hN : (cbN b).den E = (cbN b').den E := by simp only [cbN, listT, Tm.den, hD]
  simp only [cbY, Tm.den, hN, hD]
/-- ONE VALUE. -/
theorem cb_same (h30 : ∀ c, E.fn 30 c = upF c) (h31 : ∀ c, E.fn 31 c = dnF c) (h32 : ∀ c, E.fn 32 c = nwF c) (hf : F.fin .f32 (E.v 0).toF = true) : (CBi.den E).at_ 0 = (CBs.den E).at_ 0 := by
  cases h0 : (is0.den E).toB with
  | true => simp only [CBi, CBs, listT, Tm.den, h0, if_true, Sc.at_zero]
  | false =>
    obtain ⟨z, e1, e2, z1, z2⟩ := b0_eq hf h0
    have hY := cbY_eq (b := b0I) (b' := b0S) (e2.trans e1.symm)
    have hle := y_le h30 h31 h32 (b0 := b0S) (by rw [e1]; exact z1) (by rw [e1]; exact z2)
    have hle' : ((cbY b0S).den E).toF ≤ topR := Nat.le_trans hle (Nat.le_of_ble_eq_true rx_top)
    obtain ⟨_, n2, _⟩ := narrow_neg hle'
    simp only [CBi, CBs, listT, Tm.den, h0, Bool.false_eq_true, if_false, Sc.at_zero, hY]
    cases hn : (isNg.den E).toB with
    | true => simp only [if_true, Opc.den, Sc.toF_f]; rw [n2]
    | false => simp only [Bool.false_eq_true, if_false]
end
end Go.Sx
