/- Floats whose NaNs are all one: what the model's operations come to. No condition. -/
import Derived.Test.YtfdpcmijifdfeaaGreatSxTm
set_option linter.unusedVariables false
set_option linter.unusedSimpArgs false
noncomputable section
namespace Go.Sx
open Go Ieee

theorem word_read (f : Format) (neg : Bool) (r : Nat) (hr : r ≤ f.infRung) (hi : f.infRung < f.signWeight) : (f.read (f.word neg r)).isNaN = false := by
  have hlt : r < f.signWeight := Nat.lt_of_le_of_lt hr hi
  have hm : f.word neg r % f.signWeight = r := by
    cases neg
    · simp [Format.word, Nat.mod_eq_of_lt hlt]
    · simp [Format.word, Nat.mod_eq_of_lt hlt]
  unfold Format.read
  simp only [hm]
  split
  · rfl
  · split
    · rfl
    · split
      · rfl
      · omega
theorem inf_lt (k : FloatKind) : k.format.infRung < k.format.signWeight := by cases k <;> decide

def isNanD : Datum → Bool | .nan _ _ => true | _ => false
theorem write_notNan (k : FloatKind) (d : Datum) (hd : isNanD d = false) : isNan k (k.format.write d) = false := by
  unfold isNan
  cases d with
  | number n m e =>
    simp only [Format.write, Format.nearest]
    split
    · exact word_read _ _ _ (Nat.zero_le _) (inf_lt k)
    · exact word_read _ _ _ (Nat.min_le_right _ _) (inf_lt k)
  | infinity n => exact word_read _ _ _ (Nat.le_refl _) (inf_lt k)
  | nan n t => simp [isNanD] at hd

theorem canon_write (k : FloatKind) (d : Datum) (hd : isNanD d = false) : canon k (k.format.write d) = k.format.write d := by
  simp [canon, write_notNan k d hd]
theorem canon_nan (k : FloatKind) (x : Nat) (h : isNan k x = true) : canon k x = nanOf k := by simp [canon, h]
theorem canon_not (k : FloatKind) (x : Nat) (h : isNan k x = false) : canon k x = x := by simp [canon, h]
theorem nanOf_nan (k : FloatKind) : isNan k (nanOf k) = true := by cases k <;> decide +kernel
theorem isNan_canon (k : FloatKind) (x : Nat) : isNan k (canon k x) = isNan k x := by
  cases h : isNan k x
  · rw [canon_not k x h, h]
  · rw [canon_nan k x h, nanOf_nan]
@[simp] theorem canon_canon (k : FloatKind) (x : Nat) : canon k (canon k x) = canon k x := by
  cases h : isNan k x
  · rw [canon_not k x h, canon_not k x h]
  · rw [canon_nan k x h, canon_nan k _ (nanOf_nan k)]

theorem isNan_eq (k : FloatKind) (x : Nat) : isNan k x = isNanD (k.format.read x) := by
  unfold isNan
  cases k.format.read x <;> rfl

theorem sum_nan_l {a b : Datum} (h : isNanD a = true) : a.sum b = none := by cases a <;> simp [isNanD] at h; cases b <;> rfl
theorem sum_nan_r {a b : Datum} (h : isNanD b = true) : a.sum b = none := by cases b <;> simp [isNanD] at h; cases a <;> rfl
theorem product_nan_l {a b : Datum} (h : isNanD a = true) : a.product b = none := by cases a <;> simp [isNanD] at h; cases b <;> rfl
theorem product_nan_r {a b : Datum} (h : isNanD b = true) : a.product b = none := by cases b <;> simp [isNanD] at h; cases a <;> rfl
theorem quotient_nan_l {n : Nat} {a b : Datum} (h : isNanD a = true) : a.quotient n b = none := by cases a <;> simp [isNanD] at h; cases b <;> rfl
theorem quotient_nan_r {n : Nat} {a b : Datum} (h : isNanD b = true) : a.quotient n b = none := by cases b <;> simp [isNanD] at h; cases a <;> rfl
theorem order_nan_l {a b : Datum} (h : isNanD a = true) : a.order b = none := by cases a <;> simp [isNanD] at h; cases b <;> rfl
theorem order_nan_r {a b : Datum} (h : isNanD b = true) : a.order b = none := by cases b <;> simp [isNanD] at h; cases a <;> rfl
theorem opposite_nan {a : Datum} : isNanD a.opposite = isNanD a := by cases a <;> rfl

theorem sum_some {a b d : Datum} (h : a.sum b = some d) : isNanD d = false := by
  cases a <;> cases b <;> simp only [Datum.sum] at h <;> (try split at h) <;> cases h <;> rfl
theorem product_some {a b d : Datum} (h : a.product b = some d) : isNanD d = false := by
  cases a <;> cases b <;> simp only [Datum.product] at h <;> (try split at h) <;> cases h <;> rfl
theorem quotient_some {n : Nat} {a b d : Datum} (h : a.quotient n b = some d) : isNanD d = false := by
  cases a <;> cases b <;> simp only [Datum.quotient] at h <;> (try split at h) <;> (try split at h) <;> cases h <;> rfl
theorem root_some {n : Nat} {a d : Datum} (h : a.root n = some d) : isNanD d = false := by
  cases a <;> simp only [Datum.root] at h <;> (try split at h) <;> (try split at h) <;> cases h <;> rfl

/-- The four operations on floats with one NaN. -/
theorem lift2 (k : FloatKind) (op : Datum → Datum → Option Datum) (hl : ∀ a b, isNanD a = true → op a b = none) (hr : ∀ a b, isNanD b = true → op a b = none)
    (hs : ∀ a b d, op a b = some d → isNanD d = false) (x y : Nat) :
    (∀ r, (op (k.format.read x) (k.format.read y)).map k.format.write = some r → canon k r = ((op (k.format.read (canon k x)) (k.format.read (canon k y))).map k.format.write).getD (nanOf k)) ∧
    ((op (k.format.read x) (k.format.read y)).map k.format.write = none → ((op (k.format.read (canon k x)) (k.format.read (canon k y))).map k.format.write).getD (nanOf k) = nanOf k) := by
  have hnx : isNan k x = true → isNanD (k.format.read (canon k x)) = true := fun h => by rw [← isNan_eq, isNan_canon, h]
  have hny : isNan k y = true → isNanD (k.format.read (canon k y)) = true := fun h => by rw [← isNan_eq, isNan_canon, h]
  cases hx : isNan k x
  · cases hy : isNan k y
    · rw [canon_not k x hx, canon_not k y hy]
      refine ⟨fun r h => ?_, fun h => by rw [h]; rfl⟩
      rw [h]
      cases ho : op (k.format.read x) (k.format.read y) with
      | none => simp [ho] at h
      | some d =>
        simp [ho] at h
        subst h
        exact canon_write k d (hs _ _ _ ho)
    · rw [hr _ (k.format.read y) (by rw [← isNan_eq, hy]), hr _ _ (hny hy)]
      exact ⟨fun r h => (by cases h), fun _ => rfl⟩
  · rw [hl (k.format.read x) _ (by rw [← isNan_eq, hx]), hl _ _ (hnx hx)]
    exact ⟨fun r h => (by cases h), fun _ => rfl⟩

theorem isNan_of (k : FloatKind) (x : Nat) (h : k.format.infRung < x % k.format.signWeight) : isNan k x = true := by
  have h1 : k.format.binade ≤ k.format.infRung := by cases k <;> decide
  unfold isNan Format.read
  simp only []
  rw [if_neg (by omega), if_neg (by omega), if_neg (by omega)]
  rfl
theorem nanBits_nan (k : FloatKind) (x y t : Nat) : isNan k ((Question.nanBits k x y).cut t) = true := by
  have h2 : t % 2 < 2 := Nat.mod_lt _ (by omega)
  apply isNan_of
  cases k
  · have h : (t / 2) % (2 ^ 23 - 1) < 2 ^ 23 - 1 := Nat.mod_lt _ (by decide)
    have e1 : FloatKind.f32.format.infRung = 2139095040 := by decide
    have e2 : FloatKind.f32.format.signWeight = 2147483648 := by decide
    rw [e1, e2]
    simp only [Question.cut]
    generalize (t / 2) % (2 ^ 23 - 1) = m at *
    generalize t % 2 = s at *
    omega
  · have h : (t / 2) % (2 ^ 52 - 1) < 2 ^ 52 - 1 := Nat.mod_lt _ (by decide)
    have e1 : FloatKind.f64.format.infRung = 9218868437227405312 := by decide
    have e2 : FloatKind.f64.format.signWeight = 9223372036854775808 := by decide
    rw [e1, e2]
    simp only [Question.cut]
    generalize (t / 2) % (2 ^ 52 - 1) = m at *
    generalize t % 2 = s at *
    omega
theorem nanConv_nan (k : FloatKind) (x t : Nat) : isNan k ((Question.nanConv k x).cut t) = true := by
  have := nanBits_nan k x x t
  cases k <;> exact this

/-- What a run of one operation on floats is: the very bits, or a NaN that the tape chooses. -/
def FRun (P : Program) (s : Sem Value) (k : FloatKind) (want : Nat) (w : World) : Prop :=
  ∃ x w', s.run P w = .ok (.float k x) w' ∧ canon k x = want ∧ (w' = w ∨ w' = w.drew)

theorem floatArith_run {P : Program} (w : World) (k : FloatKind) (x y : Nat) :
    FRun P (Op.floatArith .add k x y) k (F.add k (canon k x) (canon k y)) w ∧ FRun P (Op.floatArith .sub k x y) k (F.sub k (canon k x) (canon k y)) w ∧
    FRun P (Op.floatArith .mul k x y) k (F.mul k (canon k x) (canon k y)) w ∧ FRun P (Op.floatArith .quo k x y) k (F.div k (canon k x) (canon k y)) w := by
  have key : ∀ (s : Sem Value) (r : Option Nat) (want : Nat), (∀ z, r = some z → s.run P w = .ok (.float k z) w) →
      (r = none → s.run P w = .ok (.float k ((Question.nanBits k x y).cut (w.tape w.drawn (.nanBits k x y)))) w.drew) →
      (∀ z, r = some z → canon k z = want) → (r = none → want = nanOf k) → FRun P s k want w := by
    intro s r want hs hn h1 h2
    cases r with
    | some z => exact ⟨z, w, hs z rfl, h1 z rfl, .inl rfl⟩
    | none => exact ⟨_, w.drew, hn rfl, (canon_nan k _ (nanBits_nan k x y _)).trans (h2 rfl).symm, .inr rfl⟩
  refine ⟨?_, ?_, ?_, ?_⟩
  · obtain ⟨h1, h2⟩ := lift2 k Datum.sum (fun _ _ => sum_nan_l) (fun _ _ => sum_nan_r) (fun _ _ _ => sum_some) x y
    exact key _ (k.format.add x y) (F.add k (canon k x) (canon k y)) (fun z hz => by simp [Op.floatArith, hz]) (fun hz => by simp [Op.floatArith, hz, Question.forced]) h1 h2
  · obtain ⟨h1, h2⟩ := lift2 k (fun a b => a.sum b.opposite) (fun _ _ => sum_nan_l) (fun _ _ h => sum_nan_r (by rw [opposite_nan]; exact h)) (fun _ _ _ => sum_some) x y
    exact key _ (k.format.sub x y) (F.sub k (canon k x) (canon k y)) (fun z hz => by simp [Op.floatArith, hz]) (fun hz => by simp [Op.floatArith, hz, Question.forced]) h1 h2
  · obtain ⟨h1, h2⟩ := lift2 k Datum.product (fun _ _ => product_nan_l) (fun _ _ => product_nan_r) (fun _ _ _ => product_some) x y
    exact key _ (k.format.mul x y) (F.mul k (canon k x) (canon k y)) (fun z hz => by simp [Op.floatArith, hz]) (fun hz => by simp [Op.floatArith, hz, Question.forced]) h1 h2
  · obtain ⟨h1, h2⟩ := lift2 k (Datum.quotient (k.format.fractionBits + 2)) (fun _ _ => quotient_nan_l) (fun _ _ => quotient_nan_r) (fun _ _ _ => quotient_some) x y
    exact key _ (k.format.div x y) (F.div k (canon k x) (canon k y)) (fun z hz => by simp [Op.floatArith, hz]) (fun hz => by simp [Op.floatArith, hz, Question.forced]) h1 h2

theorem order_canon (k : FloatKind) (x y : Nat) : k.format.order (canon k x) (canon k y) = k.format.order x y := by
  unfold Format.order
  cases hx : isNan k x
  · cases hy : isNan k y
    · rw [canon_not k x hx, canon_not k y hy]
    · rw [order_nan_r (a := k.format.read x) (by rw [← isNan_eq, hy]), order_nan_r (by rw [← isNan_eq, isNan_canon, hy])]
  · rw [order_nan_l (b := k.format.read y) (by rw [← isNan_eq, hx]), order_nan_l (by rw [← isNan_eq, isNan_canon, hx])]

theorem order_self (a : Datum) (h : isNanD a = false) : a.order a = some .eq := by
  cases a with
  | number s m i => simp [Datum.order, compare, compareOfLessAndEq]
  | infinity s => cases s <;> rfl
  | nan s t => simp [isNanD] at h

theorem F.eq_self (k : FloatKind) (x : Nat) : F.eq k x x = !isNan k x := by
  unfold F.eq Format.order
  rw [isNan_eq]
  cases h : isNanD (k.format.read x)
  · rw [order_self _ h]; rfl
  · rw [order_nan_l h]; rfl
theorem F.gt_lt (k : FloatKind) (x y : Nat) : (k.format.order x y == some .gt) = F.lt k y x := by
  unfold F.lt Format.order
  rw [← order_swap (k.format.read x)]
  cases (k.format.read x).order (k.format.read y) with
  | none => rfl
  | some o => cases o <;> rfl
theorem neg_nan (k : FloatKind) (x : Nat) : isNan k (Op.negFloat k x) = isNan k x := by
  have hm : Op.negFloat k x % k.format.signWeight = x % k.format.signWeight := by
    unfold Op.negFloat Format.signWeight
    rw [Nat.xor_mod_two_pow, Nat.mod_self, Nat.xor_zero]
  unfold isNan Format.read
  simp only [hm]
  repeat' split
  all_goals rfl
theorem F.neg_canon (k : FloatKind) (x : Nat) : canon k (Op.negFloat k x) = F.neg k (canon k x) := by
  unfold F.neg
  cases h : isNan k x
  · rw [canon_not k x h]
  · rw [canon_nan k _ ((neg_nan k x).trans h), canon_nan k _ ((neg_nan k _).trans ((isNan_canon k x).trans h))]

theorem word_read_fin (f : Format) (neg : Bool) (r : Nat) (hr : r < f.infRung) (hi : f.infRung < f.signWeight) : (f.read (f.word neg r)).isInfinity = false := by
  have hlt : r < f.signWeight := Nat.lt_trans hr hi
  have hm : f.word neg r % f.signWeight = r := by
    cases neg
    · simp [Format.word, Nat.mod_eq_of_lt hlt]
    · simp [Format.word, Nat.mod_eq_of_lt hlt]
  unfold Format.read
  simp only [hm]
  split
  · rfl
  · rfl

theorem cut_zero (neg : Bool) (n : Nat) : Toward.even.cut neg n 0 = n := by
  unfold Toward.cut
  simp [Nat.mod_one]

theorem single_read (x : Nat) {s : Bool} {m : Nat} {e : Int} (h : single.read x = .number s m e) : m < 2 ^ 24 ∧ -149 ≤ e ∧ e ≤ 104 := by
  have e1 : single.binade = 8388608 := by decide
  have e2 : single.infRung = 2139095040 := by decide
  have e3 : single.leastPlace = -149 := by decide
  unfold Format.read at h
  simp only [e1, e2, e3] at h
  generalize x % single.signWeight = r at h
  split at h
  · cases h; omega
  · split at h
    · cases h; omega
    · split at h <;> cases h

theorem rung_small (T q : Nat) (h1 : T ≤ 1149) (h2 : q < 2 ^ 53) : min (T * 4503599627370496 + q) 9218868437227405312 < 9218868437227405312 := by omega
theorem convOk_32_64 (x : Nat) : F.convOk .f32 .f64 x = true := by
  unfold F.convOk
  split
  · rfl
  · split
    · rename_i s m e hd
      obtain ⟨h1, h2, h3⟩ := single_read x hd
      have hlp : double.leastPlace = -1074 := by decide
      have hb : double.binade = 4503599627370496 := by decide
      have hi : double.infRung = 9218868437227405312 := by decide
      have hfb : double.fractionBits = 52 := rfl
      simp only [Bool.not_eq_true']
      show (double.read (double.nearest s m e)).isInfinity = false
      unfold Format.nearest
      split
      · exact word_read_fin _ _ _ (by decide) (by decide)
      · rename_i hm
        apply word_read_fin _ _ _ _ (by decide)
        have hlog : m.log2 ≤ 23 := by
          have := (Nat.log2_lt hm).2 h1
          omega
        have hlt : m < 2 ^ (m.log2 + 1) := Nat.lt_log2_self
        simp only [hlp, hb, hi, hfb]
        have hmax : max (e + (m.log2 : Int) - (52 : Nat)) (-1074) = e + (m.log2 : Int) - 52 := by omega
        rw [hmax]
        have hdrop : (e + (m.log2 : Int) - 52 - e).toNat = 0 := by omega
        have hup : (e - (e + (m.log2 : Int) - 52)).toNat = 52 - m.log2 := by omega
        rw [hdrop, hup, cut_zero, Nat.shiftLeft_eq]
        have hn : m * 2 ^ (52 - m.log2) < 2 ^ 53 := by
          have : 2 ^ (m.log2 + 1) * 2 ^ (52 - m.log2) = 2 ^ 53 := by rw [← Nat.pow_add]; congr 1; omega
          exact Nat.lt_of_lt_of_eq ((Nat.mul_lt_mul_right (Nat.pow_pos (by omega))).2 hlt) this
        exact rung_small _ _ (by omega) hn
    · rfl
theorem convOk_widens (s d : FloatKind) (h : (match s, d with | .f64, .f32 => false | _, _ => true) = true) (x : Nat) : F.convOk s d x = true := by
  cases s <;> cases d
  · rfl
  · exact convOk_32_64 x
  · cases h
  · rfl

theorem conv_run {P : Program} (w : World) (s d : FloatKind) (x : Nat) (hne : s ≠ d) (hok : F.convOk s d (canon s x) = true) : FRun P (Conv.floatToFloat s x d) d (F.conv s d (canon s x)) w := by
  unfold Conv.floatToFloat F.conv
  rw [if_neg hne, if_neg hne]
  cases hx : isNan s x
  · rw [canon_not s x hx] at hok ⊢
    unfold F.convOk at hok
    rw [if_neg hne] at hok
    have hn : isNanD (s.decode x) = false := by have := hx; rw [isNan_eq] at this; exact this
    cases hd : s.decode x with
    | nan n t => rw [hd] at hn; simp [isNanD] at hn
    | infinity n => exact ⟨_, w, rfl, canon_write d _ rfl, .inl rfl⟩
    | number n m e =>
      rw [hd] at hok
      simp only [Bool.not_eq_true'] at hok
      refine ⟨d.encode (.number n m e), w, ?_, canon_write d _ rfl, .inl rfl⟩
      simp [hok]
  · rw [canon_nan s x hx]
    have h1 : isNanD (s.decode x) = true := by have := hx; rw [isNan_eq] at this; exact this
    have h2 : isNanD (s.decode (nanOf s)) = true := by have := nanOf_nan s; rw [isNan_eq] at this; exact this
    cases hd : s.decode x with
    | number n m e => rw [hd] at h1; simp [isNanD] at h1
    | infinity n => rw [hd] at h1; simp [isNanD] at h1
    | nan n t =>
      cases hd2 : s.decode (nanOf s) with
      | number n m e => rw [hd2] at h2; simp [isNanD] at h2
      | infinity n => rw [hd2] at h2; simp [isNanD] at h2
      | nan n2 t2 =>
        refine ⟨_, w.drew, ?_, canon_nan d _ (nanConv_nan d x (w.tape w.drawn (.nanConv d x))), .inr rfl⟩
        simp [Question.forced]

theorem toInt_canon (s : FloatKind) (x : Nat) (d : IntKind) (h : F.toIntOk s d (canon s x) = true) : isNan s x = false := by
  cases hx : isNan s x
  · rfl
  · rw [canon_nan s x hx] at h
    cases s <;> cases d <;> revert h <;> decide +kernel

end Go.Sx
