/- The loops of the third root: what they compute, and that they end. No condition. -/
import Derived.Test.YtamljpeicecbjaaGreatSxDiv
import Derived.Test.YtamljpeicecbjaaGreatSxLoop
import Derived.Test.YtamljpeicecbjaaGreatSxFin
import Derived.Test.YtamljpeicecbjaaGreatSxRes
set_option linter.unusedVariables false
set_option linter.unusedSimpArgs false
noncomputable section
namespace Go.Sx
open Go Ieee

def cmin : Nat := 3936146074321813504
def cmax : Nat := 5183643171103440896
def x43 : Nat := 4800837202776948736
def fbt (t : Tm) : Tm := .op (.fbits .f64) t .nil
/-- The word of t is at least n; at most n. -/
def geW (n : Nat) (t : Tm) : Tm × Bool := (.op .lei (.il (Int.ofNat n)) (fbt t), true)
def leW (t : Tm) (n : Nat) : Tm × Bool := (.op .lei (fbt t) (.il (Int.ofNat n)), true)
def eqW (t : Tm) (n : Nat) : Tm × Bool := (.op .eqi (fbt t) (.il (Int.ofNat n)), true)
theorem geW_iff {E : Env} {n : Nat} {t : Tm} : ((geW n t).1.den E).toB = true ↔ n ≤ (t.den E).toF := by
  show decide (Int.ofNat n ≤ Int.ofNat (t.den E).toF) = true ↔ _
  rw [decide_eq_true_eq]; exact Int.ofNat_le
theorem leW_iff {E : Env} {n : Nat} {t : Tm} : ((leW t n).1.den E).toB = true ↔ (t.den E).toF ≤ n := by
  show decide (Int.ofNat (t.den E).toF ≤ Int.ofNat n) = true ↔ _
  rw [decide_eq_true_eq]; exact Int.ofNat_le
theorem eqW_iff {E : Env} {n : Nat} {t : Tm} : ((eqW t n).1.den E).toB = true ↔ (t.den E).toF = n := by
  show decide (Int.ofNat (t.den E).toF = Int.ofNat n) = true ↔ _
  rw [decide_eq_true_eq]; exact Int.ofNat_inj
/-- Places that stay. -/
def extras : Nat → Nat → List Tm
  | 0, _ => []
  | m + 1, j => .var (1000 + j) :: extras m (j + 1)
theorem extras_den (fn : Env) (v : List Sc) : ∀ (m j : Nat), v.length = j + m → (extras m j).map (Tm.den (envV 1000 fn v)) = v.drop j
  | 0, j, h => by simp only [extras, List.map_nil]; exact (List.drop_eq_nil_of_le (by omega)).symm
  | m + 1, j, h => by
    have hj : j < v.length := by omega
    have e : (Tm.var (1000 + j)).den (envV 1000 fn v) = v[j] := by simp [Tm.den, envV, hj]
    simp only [extras, List.map_cons, extras_den fn v m (j + 1) (by omega), e]
    exact (List.drop_eq_getElem_cons hj).symm
theorem at_ofList : ∀ (z : List Sc) (j : Nat), (Sc.ofList z).at_ j = (z[j]?).getD .nil
  | [], j => by cases j <;> rfl
  | a :: r, 0 => rfl
  | a :: r, j + 1 => by simp only [Sc.ofList, Sc.at_succ, at_ofList r j, List.getElem?_cons_succ]
theorem finOf_eq {fn : Nat → Sc → Sc} {N : Nat} {v z : List Sc} (hl : z.length = v.length) (h : fn N (Sc.ofList v) = Sc.ofList z) : finOf fn N [] v = z := by
  refine List.ext_getElem? fun i => ?_
  unfold finOf
  rw [List.nil_append, h, List.getElem?_map]
  rcases Nat.lt_or_ge i v.length with hi | hi
  · have hz : i < z.length := by omega
    simp [hi, at_ofList, hz]
  · have hz : z.length ≤ i := by omega
    simp [hi, hz]

/-! While the number is 8 or more: an eighth of it, and twice the factor -/
def upIt : Nat → Sc → Sc → Sc × Sc
  | 0, b, x => (b, x)
  | n + 1, b, x => match F.le .f64 c8 b.toF with
    | true => upIt n (.f (F.div .f64 b.toF c8)) (.f (F.mul .f64 x.toF c2))
    | false => (b, x)
def upR (b x : Sc) : Sc × Sc := upIt 42 b x
def upF : Sc → Sc
  | .cons b (.cons x r) => .cons (upR b x).1 (.cons (upR b x).2 r)
  | c => c
theorem upF_cons (b x r : Sc) : upF (.cons b (.cons x r)) = .cons (upR b x).1 (.cons (upR b x).2 r) := rfl
def Sup (pl : List Place) (m : Nat) : LoopSpec :=
  { b := 1000, places := pl, N := 30, pre := [geW cmin (.var 1000), leW (.var 1000) cmax, eqW (.var 1001) c1], inv := [geW cmin (.var 1000), leW (.var 1001) x43], post := [leW (.var 1000) (c8 - 1)],
    cond := .op (.fle .f64) (.fl c8) (.var 1000), pol := false, next := .op (.fdiv .f64) (.var 1000) (.fl c8) :: .op (.fmul .f64) (.var 1001) (.fl c2) :: extras m 2 }
def upU : Nat → Nat
  | 0 => cmax
  | n + 1 => forceN (upU n) fun u => F.div .f64 u c8 + 4
def upX : Nat → Nat
  | 0 => c1
  | n + 1 => forceN (upX n) fun x => F.mul .f64 x c2
def upOk (i : Nat) : Bool := forceN (upU i) fun u => forceN (upU (i + 1)) fun u' => Nat.blt u infD && divU u c8 u'
theorem up_tab : allN upOk 42 = true := by kernel_rfl
theorem up_end : Nat.blt (upU 42) c8 = true := by kernel_rfl
def upXok (i : Nat) : Bool := Nat.ble (upX i) x43
theorem up_x : allN upXok 43 = true := by kernel_rfl
theorem c8_low : divD c8 c8 (c1 - 4) = true := by kernel_rfl
theorem upU_lt {i : Nat} (h : i < 42) : upU i < infD := by
  have := allN_ok up_tab h
  simp only [upOk, forceN_eq, Bool.and_eq_true] at this
  exact blt_lt this.1
theorem upU_div {i : Nat} (h : i < 42) : divU (upU i) c8 (upU (i + 1)) = true := by
  have := allN_ok up_tab h
  simp only [upOk, forceN_eq, Bool.and_eq_true] at this
  exact this.2
theorem env0 (fn : Env) (a : Sc) (v : List Sc) : (Tm.var 1000).den (envV 1000 fn (a :: v)) = a := rfl
theorem env1 (fn : Env) (a b : Sc) (v : List Sc) : (Tm.var 1001).den (envV 1000 fn (a :: b :: v)) = b := rfl
theorem env2 (fn : Env) (a b c : Sc) (v : List Sc) : (Tm.var 1002).den (envV 1000 fn (a :: b :: c :: v)) = c := rfl
theorem env3 (fn : Env) (a b c d : Sc) (v : List Sc) : (Tm.var 1003).den (envV 1000 fn (a :: b :: c :: d :: v)) = d := rfl
theorem up_rounds {pl : List Place} {m : Nat} {fn : Env} {rest : List Sc} (hr : rest.length = m) : ∀ (n i : Nat) (b x : Sc), i + n = 42 → b.toF ≤ upU i → cmin ≤ b.toF → x.toF = upX i →
    Rounds (Sup pl m) fn (b :: x :: rest) ((upIt n b x).1 :: (upIt n b x).2 :: rest) ∧ (upIt n b x).1.toF ≤ c8 - 1
  | n, i, b, x, hin, hb, hlo, hx => by
    have hui : upU i < infD := by
      rcases Nat.lt_or_ge i 42 with h | h
      · exact upU_lt h
      · have : i = 42 := by omega
        subst this
        have := blt_lt up_end
        exact Nat.lt_trans this (by decide)
    have hbi : b.toF < infD := by omega
    have hx43 : x.toF ≤ x43 := by rw [hx]; exact Nat.le_of_ble_eq_true (show upXok i = true from allN_ok up_x (by omega))
    have hinv : PcOk (envV (Sup pl m).b fn (b :: x :: rest)) (Sup pl m).inv := by
      intro p hp
      rcases List.mem_cons.1 hp with rfl | hp
      · exact geW_iff.2 hlo
      · rcases List.mem_cons.1 hp with rfl | hp
        · exact leW_iff.2 hx43
        · cases hp
    have hle : F.le .f64 c8 b.toF = decide (c8 ≤ b.toF) := le_pos (by rw [infD_eq]; decide) (by rw [infD_eq]; exact hbi)
    have hcond : ((Sup pl m).cond.den (envV (Sup pl m).b fn (b :: x :: rest))).toB = F.le .f64 c8 b.toF := rfl
    cases hc : F.le .f64 c8 b.toF with
    | false =>
      have hlt : b.toF < c8 := by
        rw [hc] at hle
        have := of_decide_eq_false hle.symm
        omega
      have e : upIt n b x = (b, x) := by
        cases n with
        | zero => rfl
        | succ n => simp only [upIt, hc]
      rw [e]
      exact ⟨.stop hinv (by rw [hcond, hc]; rfl), by simp only; omega⟩
    | true =>
      have hge : c8 ≤ b.toF := by
        rw [hc] at hle
        exact of_decide_eq_true hle.symm
      cases n with
      | zero =>
        have : i = 42 := by omega
        subst this
        have := blt_lt up_end
        omega
      | succ n =>
        have hi : i < 42 := by omega
        have h1 : F.div .f64 b.toF c8 ≤ upU (i + 1) := divU_ok (upU_div hi) hb (Nat.le_refl _) hui (by decide)
        have h2 : cmin ≤ F.div .f64 b.toF c8 := Nat.le_trans (by decide) (divD_ok c8_low hge (Nat.le_refl _) hbi (by decide) (by decide))
        have h3 : F.mul .f64 x.toF c2 = upX (i + 1) := by rw [hx]; simp only [upX, forceN_eq]
        obtain ⟨g1, g2⟩ := up_rounds (pl := pl) (fn := fn) hr n (i + 1) (.f (F.div .f64 b.toF c8)) (.f (F.mul .f64 x.toF c2)) (by omega) h1 h2 h3
        have e : upIt (n + 1) b x = upIt n (.f (F.div .f64 b.toF c8)) (.f (F.mul .f64 x.toF c2)) := by simp only [upIt, hc]
        rw [e]
        refine ⟨.more hinv (by rw [hcond, hc]; rfl) ?_, g2⟩
        have en : (Sup pl m).next.map (Tm.den (envV (Sup pl m).b fn (b :: x :: rest))) = .f (F.div .f64 b.toF c8) :: .f (F.mul .f64 x.toF c2) :: rest := by
          show _ :: _ :: (extras m 2).map (Tm.den (envV 1000 fn (b :: x :: rest))) = _
          rw [extras_den fn _ m 2 (by simp; omega)]
          rfl
        rw [en]
        exact g1
theorem up_law {pl : List Place} {m : Nat} (hl : pl.length = m + 2) {fn : Env} (hf : ∀ c, fn.fn 30 c = upF c) : LoopLaw (Sup pl m) fn := by
  intro v hv hpre
  have hv' : v.length = m + 2 := hv.trans hl
  obtain ⟨b, x, rest, rfl⟩ : ∃ b x rest, v = b :: x :: rest := by
    cases v with
    | nil => simp at hv'
    | cons b v => cases v with
      | nil => simp at hv'
      | cons x rest => exact ⟨b, x, rest, rfl⟩
  have hr : rest.length = m := by simpa using hv'
  have p1 := geW_iff.1 (hpre _ (List.mem_cons_self ..))
  have p2 := leW_iff.1 (hpre _ (List.mem_cons_of_mem _ (List.mem_cons_self ..)))
  have p3 := eqW_iff.1 (hpre _ (List.mem_cons_of_mem _ (List.mem_cons_of_mem _ (List.mem_cons_self ..))))
  have g := up_rounds (pl := pl) (fn := fn) hr 42 0 b x rfl p2 p1 p3
  rw [← upR] at g
  obtain ⟨g1, g2⟩ := g
  have e : finS (Sup pl m) fn (b :: x :: rest) = (upR b x).1 :: (upR b x).2 :: rest := finOf_eq (by simp) (by
    show fn.fn 30 (Sc.ofList (b :: x :: rest)) = _
    rw [hf]; exact upF_cons ..)
  rw [e]
  refine ⟨g1, fun p hp => ?_⟩
  rcases List.mem_cons.1 hp with rfl | hp
  · exact leW_iff.2 g2
  · cases hp

/-! While the number is less than 1: eight times it, and half the factor -/
def dnIt : Nat → Sc → Sc → Sc × Sc
  | 0, b, x => (b, x)
  | n + 1, b, x => match F.lt .f64 b.toF c1 with
    | true => dnIt n (.f (F.mul .f64 b.toF c8)) (.f (F.div .f64 x.toF c2))
    | false => (b, x)
def dnR (b x : Sc) : Sc × Sc := dnIt 50 b x
def dnF : Sc → Sc
  | .cons b (.cons x r) => .cons (dnR b x).1 (.cons (dnR b x).2 r)
  | c => c
theorem dnF_cons (b x r : Sc) : dnF (.cons b (.cons x r)) = .cons (dnR b x).1 (.cons (dnR b x).2 r) := rfl
def Sdn (pl : List Place) (m : Nat) : LoopSpec :=
  { b := 1000, places := pl, N := 31, pre := [geW cmin (.var 1000), leW (.var 1000) (c8 - 1), leW (.var 1001) x43], inv := [leW (.var 1000) (c8 - 1), leW (.var 1001) x43], post := [geW c1 (.var 1000)],
    cond := .op (.flt .f64) (.var 1000) (.fl c1), pol := false, next := .op (.fmul .f64) (.var 1000) (.fl c8) :: .op (.fdiv .f64) (.var 1001) (.fl c2) :: extras m 2 }
def dnL : Nat → Nat
  | 0 => cmin
  | n + 1 => forceN (dnL n) fun u => F.mul .f64 u c8
theorem dn_end : Nat.ble c1 (dnL 50) = true := by kernel_rfl
theorem dn_top : Nat.ble (F.mul .f64 (c1 - 1) c8) (c8 - 1) = true := by kernel_rfl
theorem dn_x : divU x43 c2 x43 = true := by kernel_rfl
theorem dn_rounds {pl : List Place} {m : Nat} {fn : Env} {rest : List Sc} (hr : rest.length = m) : ∀ (n i : Nat) (b x : Sc), i + n = 50 → dnL i ≤ b.toF → b.toF ≤ c8 - 1 → x.toF ≤ x43 →
    Rounds (Sdn pl m) fn (b :: x :: rest) ((dnIt n b x).1 :: (dnIt n b x).2 :: rest) ∧ c1 ≤ (dnIt n b x).1.toF
  | n, i, b, x, hin, hlo, hb, hx => by
    have hbi : b.toF < infD := Nat.lt_of_le_of_lt hb (by decide)
    have hinv : PcOk (envV (Sdn pl m).b fn (b :: x :: rest)) (Sdn pl m).inv := by
      intro p hp
      rcases List.mem_cons.1 hp with rfl | hp
      · exact leW_iff.2 hb
      · rcases List.mem_cons.1 hp with rfl | hp
        · exact leW_iff.2 hx
        · cases hp
    have hlt : F.lt .f64 b.toF c1 = decide (b.toF < c1) := lt_pos (by rw [infD_eq]; exact hbi) (by rw [infD_eq]; decide)
    have hcond : ((Sdn pl m).cond.den (envV (Sdn pl m).b fn (b :: x :: rest))).toB = F.lt .f64 b.toF c1 := rfl
    cases hc : F.lt .f64 b.toF c1 with
    | false =>
      have hge : c1 ≤ b.toF := by
        rw [hc] at hlt
        have := of_decide_eq_false hlt.symm
        omega
      have e : dnIt n b x = (b, x) := by
        cases n with
        | zero => rfl
        | succ n => simp only [dnIt, hc]
      rw [e]
      exact ⟨.stop hinv (by rw [hcond, hc]; rfl), hge⟩
    | true =>
      have hl : b.toF < c1 := by
        rw [hc] at hlt
        exact of_decide_eq_true hlt.symm
      cases n with
      | zero =>
        have : i = 50 := by omega
        subst this
        have := Nat.le_of_ble_eq_true dn_end
        omega
      | succ n =>
        have h1 : dnL (i + 1) ≤ F.mul .f64 b.toF c8 := by
          simp only [dnL, forceN_eq]
          exact mul_bits hlo (Nat.le_refl _) (by rw [infD_eq]; exact hbi) (by rw [infD_eq]; decide)
        have h2 : F.mul .f64 b.toF c8 ≤ c8 - 1 := Nat.le_trans (mul_bits (k := .f64) (show b.toF ≤ c1 - 1 by omega) (Nat.le_refl _) (by rw [infD_eq]; decide) (by rw [infD_eq]; decide)) (Nat.le_of_ble_eq_true dn_top)
        have h3 : F.div .f64 x.toF c2 ≤ x43 := divU_ok dn_x hx (Nat.le_refl _) (by decide) (by decide)
        obtain ⟨g1, g2⟩ := dn_rounds (pl := pl) (fn := fn) hr n (i + 1) (.f (F.mul .f64 b.toF c8)) (.f (F.div .f64 x.toF c2)) (by omega) h1 h2 h3
        have e : dnIt (n + 1) b x = dnIt n (.f (F.mul .f64 b.toF c8)) (.f (F.div .f64 x.toF c2)) := by simp only [dnIt, hc]
        rw [e]
        refine ⟨.more hinv (by rw [hcond, hc]; rfl) ?_, g2⟩
        have en : (Sdn pl m).next.map (Tm.den (envV (Sdn pl m).b fn (b :: x :: rest))) = .f (F.mul .f64 b.toF c8) :: .f (F.div .f64 x.toF c2) :: rest := by
          show _ :: _ :: (extras m 2).map (Tm.den (envV 1000 fn (b :: x :: rest))) = _
          rw [extras_den fn _ m 2 (by simp; omega)]
          rfl
        rw [en]
        exact g1
theorem dn_law {pl : List Place} {m : Nat} (hl : pl.length = m + 2) {fn : Env} (hf : ∀ c, fn.fn 31 c = dnF c) : LoopLaw (Sdn pl m) fn := by
  intro v hv hpre
  have hv' : v.length = m + 2 := hv.trans hl
  obtain ⟨b, x, rest, rfl⟩ : ∃ b x rest, v = b :: x :: rest := by
    cases v with
    | nil => simp at hv'
    | cons b v => cases v with
      | nil => simp at hv'
      | cons x rest => exact ⟨b, x, rest, rfl⟩
  have hr : rest.length = m := by simpa using hv'
  have p1 := geW_iff.1 (hpre _ (List.mem_cons_self ..))
  have p2 := leW_iff.1 (hpre _ (List.mem_cons_of_mem _ (List.mem_cons_self ..)))
  have p3 := leW_iff.1 (hpre _ (List.mem_cons_of_mem _ (List.mem_cons_of_mem _ (List.mem_cons_self ..))))
  have g := dn_rounds (pl := pl) (fn := fn) hr 50 0 b x rfl p1 p2 p3
  rw [← dnR] at g
  obtain ⟨g1, g2⟩ := g
  have e : finS (Sdn pl m) fn (b :: x :: rest) = (dnR b x).1 :: (dnR b x).2 :: rest := finOf_eq (by simp) (by
    show fn.fn 31 (Sc.ofList (b :: x :: rest)) = _
    rw [hf]; exact dnF_cons ..)
  rw [e]
  refine ⟨g1, fun p hp => ?_⟩
  rcases List.mem_cons.1 hp with rfl | hp
  · exact geW_iff.2 g2
  · cases hp

/-! Six of Newton's steps -/
def nwIt : Nat → Sc → Sc → Sc → Sc × Sc
  | 0, r, i, _ => (r, i)
  | n + 1, r, i, b => nwIt n (.f (newt b.toF r.toF)) (.i (IntKind.i64.wrap (i.toI + 1))) b
def nwR (r i b : Sc) : Sc × Sc := nwIt 6 r i b
def nwF : Sc → Sc
  | .cons r (.cons i (.cons b rest)) => .cons (nwR r i b).1 (.cons (nwR r i b).2 (.cons b rest))
  | c => c
theorem nwF_cons (r i b rest : Sc) : nwF (.cons r (.cons i (.cons b rest))) = .cons (nwR r i b).1 (.cons (nwR r i b).2 (.cons b rest)) := rfl
def newtT : Tm :=
  .op (.fsub .f64) (.var 1000) (.op (.fdiv .f64) (.op (.fsub .f64) (.op (.fmul .f64) (.op (.fmul .f64) (.var 1000) (.var 1000)) (.var 1000)) (.var 1002)) (.op (.fmul .f64) (.op (.fmul .f64) (.fl c3) (.var 1000)) (.var 1000)))
def rxT : Tm := .op (.fmul .f64) (.var 1000) (.var 1003)
def Snw (pl : List Place) (m : Nat) : LoopSpec :=
  { b := 1000, places := pl, N := 32, pre := [eqW (.var 1000) c15, (.op .eqi (.var 1001) (.il 0), true), geW c1 (.var 1002), leW (.var 1002) (c8 - 1), leW (.var 1003) x43], inv := [],
    post := [(.op (.convok .f64 .f32) rxT .nil, true), (.op (.convok .f64 .f32) (.op (.fneg .f64) rxT .nil) .nil, true)],
    cond := .op .lti (.var 1001) (.il 6), pol := false, next := newtT :: .op (.addi .i64) (.var 1001) (.il 1) :: extras (m + 2) 2 }
theorem nw_r : ∀ (n : Nat) (r i b : Sc), (nwIt n r i b).1.toF = newtN b.toF n r.toF
  | 0, _, _, _ => rfl
  | n + 1, r, i, b => by simp only [nwIt, newtN, nw_r n]; rfl
theorem nw_rounds {pl : List Place} {m : Nat} {fn : Env} {b x : Sc} {rest : List Sc} (hr : rest.length = m) : ∀ (n : Nat) (r i : Sc), n ≤ 6 → i.toI = 6 - n →
    Rounds (Snw pl m) fn (r :: i :: b :: x :: rest) ((nwIt n r i b).1 :: (nwIt n r i b).2 :: b :: x :: rest)
  | n, r, i, hn, hi => by
    have hinv : PcOk (envV (Snw pl m).b fn (r :: i :: b :: x :: rest)) (Snw pl m).inv := fun p hp => by cases hp
    have hcond : ((Snw pl m).cond.den (envV (Snw pl m).b fn (r :: i :: b :: x :: rest))).toB = decide (i.toI < 6) := rfl
    cases n with
    | zero => exact .stop hinv (by rw [hcond]; exact decide_eq_false (by omega))
    | succ n =>
      refine .more hinv (by rw [hcond]; exact decide_eq_true (by omega)) ?_
      have hw : IntKind.i64.wrap (i.toI + 1) = i.toI + 1 := wrap_in .i64 (by rw [← kmin_eq]; show (-9223372036854775808 : Int) ≤ _; omega) (by rw [← kmax_eq]; show _ ≤ (9223372036854775807 : Int); omega)
      have en : (Snw pl m).next.map (Tm.den (envV (Snw pl m).b fn (r :: i :: b :: x :: rest))) = .f (newt b.toF r.toF) :: .i (IntKind.i64.wrap (i.toI + 1)) :: b :: x :: rest := by
        show _ :: _ :: (extras (m + 2) 2).map (Tm.den (envV 1000 fn (r :: i :: b :: x :: rest))) = _
        rw [extras_den fn _ (m + 2) 2 (by simp; omega)]
        rfl
      rw [en]
      exact nw_rounds hr n _ _ (by omega) (by show IntKind.i64.wrap (i.toI + 1) = _; rw [hw]; omega)

/-! The other sign -/
theorem xor_top {x n : Nat} (h : x < 2 ^ n) : x ^^^ 2 ^ n = 2 ^ n + x := by
  apply Nat.eq_of_testBit_eq
  intro j
  rw [Nat.testBit_xor, Nat.testBit_two_pow]
  rcases Nat.lt_trichotomy j n with hj | hj | hj
  · rw [Nat.testBit_two_pow_add_gt hj]
    have : decide (n = j) = false := decide_eq_false (by omega)
    rw [this, Bool.xor_false]
  · subst hj
    rw [Nat.testBit_two_pow_add_eq]
    simp
  · have e1 : x.testBit j = false := Nat.testBit_lt_two_pow (Nat.lt_trans h (Nat.pow_lt_pow_right (by omega) hj))
    have e2 : (2 ^ n + x).testBit j = false := Nat.testBit_lt_two_pow (by
      have : 2 ^ (n + 1) ≤ 2 ^ j := Nat.pow_le_pow_right (by omega) hj
      rw [Nat.pow_succ] at this
      omega)
    have : decide (n = j) = false := decide_eq_false (by omega)
    rw [e1, e2, this]; rfl
theorem neg_pos (k : FloatKind) {x : Nat} (h : x < k.format.infRung) : F.neg k x = k.format.word true x := by
  have hs := inf_lt_sign k.format
  have e : Op.negFloat k x = k.format.word true x := by
    unfold Op.negFloat
    have hw : k.format.signWeight = 2 ^ (k.format.exponentBits + k.format.fractionBits) := rfl
    rw [xor_top (by rw [← hw]; omega)]
    simp [Format.word, hw]
  unfold F.neg
  rw [e]
  obtain ⟨m, i, h1, _, _⟩ := read_pos k.format h
  refine canon_not k _ ?_
  unfold isNan
  rw [read_neg h h1]
  rfl
theorem narrow_neg {w : Nat} (h : w ≤ topR) : F.convOk .f64 .f32 (F.neg .f64 w) = true ∧ F.conv .f64 .f32 (F.neg .f64 w) = F.neg .f32 (F.conv .f64 .f32 w) ∧ F.conv .f64 .f32 w < FloatKind.f32.format.infRung := by
  have hlt : w < double.infRung := Nat.lt_of_le_of_lt h (by decide)
  obtain ⟨m, e, h1, h2⟩ := narrow_pos hlt
  have h3 : RgN single (valN double w) (-1074) ≤ RgN single (valN double topR) (-1074) := RgN_mono single (by decide) (valN_le.2 h)
  have h4 : RgN single (valN double topR) (-1074) < single.infRung := by decide +kernel
  have hz : RgN single (valN double w) (-1074) < single.infRung := Nat.lt_of_le_of_lt h3 h4
  have hn : F.neg .f64 w = double.word true w := neg_pos .f64 hlt
  have hrn : double.read (double.word true w) = .number true m e := read_neg (k := .f64) hlt h1
  have hw1 : single.write (.number true m e) = single.word true (single.write (.number false m e)) := nearest_neg single true m e
  rw [h1] at h2
  have hconv : F.conv .f64 .f32 w = RgN single (valN double w) (-1074) := by
    unfold F.conv
    simp only [reduceCtorEq, if_false]
    show (match double.read w with
      | .nan _ _ => nanOf .f32
      | y => single.write y) = _
    rw [h1]
    exact h2
  have hconvn : F.conv .f64 .f32 (F.neg .f64 w) = single.word true (RgN single (valN double w) (-1074)) := by
    rw [hn]
    unfold F.conv
    simp only [reduceCtorEq, if_false]
    show (match double.read (double.word true w) with
      | .nan _ _ => nanOf .f32
      | y => single.write y) = _
    rw [hrn]
    show single.write (.number true m e) = _
    rw [hw1, h2]
  refine ⟨?_, ?_, by rw [hconv]; exact hz⟩
  · rw [hn]
    unfold F.convOk
    simp only [reduceCtorEq, if_false]
    show (match double.read (double.word true w) with
      | .number n m e => !(single.read (single.write (.number n m e))).isInfinity
      | _ => true) = true
    rw [hrn]
    simp only
    rw [hw1, h2]
    obtain ⟨m', e', g1, _⟩ := read_pos single hz
    rw [show single.read (single.word true (RgN single (valN double w) (-1074))) = .number true m' e' from read_neg (k := .f32) hz g1]
    rfl
  · rw [hconvn, hconv]
    exact (neg_pos .f32 hz).symm
theorem rx_top : Nat.ble (F.mul .f64 c64 x43) topR = true := by kernel_rfl
theorem rx_le {r x : Nat} (hr : r ≤ c64) (hx : x ≤ x43) : F.mul .f64 r x ≤ topR :=
  Nat.le_trans (mul_bits (k := .f64) hr hx (by rw [infD_eq]; decide) (by rw [infD_eq]; decide)) (Nat.le_of_ble_eq_true rx_top)
theorem nw_law {pl : List Place} {m : Nat} (hl : pl.length = m + 4) {fn : Env} (hf : ∀ c, fn.fn 32 c = nwF c) : LoopLaw (Snw pl m) fn := by
  intro v hv hpre
  have hv' : v.length = m + 4 := hv.trans hl
  obtain ⟨r, i, b, x, rest, rfl⟩ : ∃ r i b x rest, v = r :: i :: b :: x :: rest := by
    cases v with
    | nil => simp at hv'
    | cons r v => cases v with
      | nil => simp at hv'
      | cons i v => cases v with
        | nil => simp at hv'
        | cons b v => cases v with
          | nil => simp at hv'
          | cons x rest => exact ⟨r, i, b, x, rest, rfl⟩
  have hr : rest.length = m := by simpa using hv'
  have q2 := List.mem_cons_of_mem (eqW (.var 1000) c15) (List.mem_cons_self (a := (Tm.op .eqi (.var 1001) (.il 0), true)) (l := [geW c1 (.var 1002), leW (.var 1002) (c8 - 1), leW (.var 1003) x43]))
  have p1 := eqW_iff.1 (hpre _ (List.mem_cons_self ..))
  have p2 : i.toI = 0 := of_decide_eq_true (hpre _ q2)
  have p3 := geW_iff.1 (hpre _ (List.mem_cons_of_mem _ (List.mem_cons_of_mem _ (List.mem_cons_self ..))))
  have p4 := leW_iff.1 (hpre _ (List.mem_cons_of_mem _ (List.mem_cons_of_mem _ (List.mem_cons_of_mem _ (List.mem_cons_self ..)))))
  have p5 := leW_iff.1 (hpre _ (List.mem_cons_of_mem _ (List.mem_cons_of_mem _ (List.mem_cons_of_mem _ (List.mem_cons_of_mem _ (List.mem_cons_self ..))))))
  have g := nw_rounds (pl := pl) (fn := fn) (b := b) (x := x) hr 6 r i (Nat.le_refl _) (by omega)
  rw [← nwR] at g
  have hb1 : c1 ≤ b.toF := p3
  have hb2 : b.toF ≤ c8 - 1 := p4
  have hx : x.toF ≤ x43 := p5
  have hr0 : r.toF = c15 := p1
  have hrr : (nwR r i b).1.toF ≤ c64 := by
    rw [nwR, nw_r, hr0]
    exact newt6_le hb1 (Nat.lt_of_le_of_lt hb2 (by decide))
  have e : finS (Snw pl m) fn (r :: i :: b :: x :: rest) = (nwR r i b).1 :: (nwR r i b).2 :: b :: x :: rest := finOf_eq (by simp) (by
    show fn.fn 32 (Sc.ofList (r :: i :: b :: x :: rest)) = _
    rw [hf]; exact nwF_cons ..)
  rw [e]
  refine ⟨g, fun p hp => ?_⟩
  have hy := rx_le hrr hx
  rcases List.mem_cons.1 hp with rfl | hp
  · exact narrow_ok hy
  · rcases List.mem_cons.1 hp with rfl | hp
    · exact (narrow_neg hy).1
    · cases hp
end Go.Sx
set_option linter.unusedVariables false
set_option linter.unusedSimpArgs false
noncomputable section
namespace Go.Sx
open Go Ieee

theorem num0 {a : Nat} {s : Bool} {m : Nat} {e : Int} (hr : single.read a = .number s m e) : F.eq .f32 a 0 = (m == 0) ∧ F.lt .f32 a 0 = (s && !(m == 0)) := by
  have h0 : FloatKind.f32.format.read 0 = .number false 0 FloatKind.f32.format.leastPlace := read_zero .f32
  have hr' : FloatKind.f32.format.read a = .number s m e := hr
  unfold F.eq F.lt Format.order
  rw [hr', h0]
  have e0 : ∀ u : Nat, signed false 0 u = 0 := fun u => by simp [signed]
  simp only [Datum.order, e0]
  generalize (e - min e FloatKind.f32.format.leastPlace).toNat = u
  cases m with
  | zero =>
    have : signed s 0 u = 0 := by simp [signed]
    rw [this]
    cases s <;> decide
  | succ m =>
    have hp : 0 < (m + 1) <<< u := by rw [Nat.shiftLeft_eq]; exact Nat.mul_pos (Nat.succ_pos m) (Nat.pow_pos (by decide))
    cases s
    · have hl : 0 < signed false (m + 1) u := by simp only [signed, Bool.false_eq_true, if_false]; omega
      have : compare (signed false (m + 1) u) 0 = .gt := by rw [Int.compare_eq_gt]; exact hl
      rw [this]
      constructor <;> rfl
    · have hl : signed true (m + 1) u < 0 := by simp only [signed, if_true]; omega
      have : compare (signed true (m + 1) u) 0 = .lt := by rw [Int.compare_eq_lt]; exact hl
      rw [this]
      constructor <;> rfl
theorem cv_top : Nat.ble (RgN double (2 ^ 24 * 2 ^ (104 + 1074)) (-1074)) cmax = true := by kernel_rfl
theorem cv_low : Nat.ble cmin (RgN double (2 ^ (1074 - 149)) (-1074)) = true := by kernel_rfl
theorem cv_fin {a : Nat} (hf : F.fin .f32 a = true) : ∃ s z, F.conv .f32 .f64 a = double.word s z ∧ z ≤ cmax ∧ (F.eq .f32 a 0 = false → cmin ≤ z ∧ F.lt .f32 a 0 = s) := by
  unfold F.fin at hf
  cases hr : FloatKind.f32.format.read a with
  | infinity s => rw [hr] at hf; cases hf
  | nan s t => rw [hr] at hf; cases hf
  | number s m e =>
    obtain ⟨h1, h2, h3⟩ := single_read a hr
    obtain ⟨n1, n2⟩ := num0 (a := a) hr
    have hz : double.nearest false m e = RgN double (m * 2 ^ (e - (-1074)).toNat) (-1074) := nearest_RgN double (b := -1074) (by omega) (by decide)
    refine ⟨s, double.nearest false m e, ?_, ?_, fun h0 => ?_⟩
    · unfold F.conv
      simp only [reduceCtorEq, if_false]
      show (match single.read a with
        | .nan _ _ => nanOf .f64
        | y => double.write y) = _
      rw [show single.read a = .number s m e from hr]
      exact nearest_neg double s m e
    · rw [hz]
      refine Nat.le_trans (RgN_mono double (by decide) ?_) (Nat.le_of_ble_eq_true cv_top)
      have hp : (e - (-1074)).toNat ≤ 104 + 1074 := by omega
      generalize (e - (-1074)).toNat = u at hp
      generalize 104 + 1074 = w at hp
      exact Nat.mul_le_mul (Nat.le_of_lt h1) (Nat.pow_le_pow_right (by omega) hp)
    · have hm : m ≠ 0 := by
        rintro rfl
        rw [n1] at h0
        cases h0
      refine ⟨?_, ?_⟩
      · rw [hz]
        refine Nat.le_trans (Nat.le_of_ble_eq_true cv_low) (RgN_mono double (by decide) ?_)
        have hp : 1074 - 149 ≤ (e - (-1074)).toNat := by omega
        generalize (e - (-1074)).toNat = u at hp
        generalize 1074 - 149 = w at hp
        exact Nat.le_trans (Nat.pow_le_pow_right (by omega) hp) (Nat.le_mul_of_pos_left _ (Nat.pos_of_ne_zero hm))
      · rw [n2]
        have : (m == 0) = false := by simpa using hm
        rw [this]; simp
theorem abs_word {s : Bool} {z : Nat} (h : z < double.infRung) : F.abs .f64 (double.word s z) = z := by
  have hs := inf_lt_sign double
  obtain ⟨m, e, h1, _, _⟩ := read_pos double h
  have hn : isNan .f64 (double.word s z) = false := by
    unfold isNan
    cases s
    · rw [word_pos]
      rw [show FloatKind.f64.format.read z = .number false m e from h1]; rfl
    · rw [show FloatKind.f64.format.read (double.word true z) = .number true m e from read_neg (k := .f64) h h1]; rfl
  unfold F.abs
  rw [hn]
  simp only [Bool.false_eq_true, if_false]
  show double.word s z % double.signWeight = z
  cases s
  · rw [word_pos]; exact Nat.mod_eq_of_lt (by omega)
  · have e0 : double.word true z = double.signWeight + z := by simp [Format.word]
    rw [e0, Nat.add_mod_left]; exact Nat.mod_eq_of_lt (by omega)
theorem neg_word {z : Nat} (h : z < double.infRung) : F.neg .f64 (double.word true z) = z := by
  have hs := inf_lt_sign double
  have e0 : double.word true z = 2 ^ 63 + z := by
    have : double.signWeight = 2 ^ 63 := by decide
    simp [Format.word, this]
  have hz : z < 2 ^ 63 := by
    have : double.signWeight = 2 ^ 63 := by decide
    omega
  have e1 : Op.negFloat .f64 (double.word true z) = z := by
    unfold Op.negFloat
    show double.word true z ^^^ 2 ^ 63 = z
    rw [e0, ← xor_top hz, Nat.xor_assoc, Nat.xor_self, Nat.xor_zero]
  unfold F.neg
  rw [e1]
  obtain ⟨m, e, h1, _, _⟩ := read_pos double h
  refine canon_not .f64 _ ?_
  unfold isNan
  rw [show FloatKind.f64.format.read z = .number false m e from h1]
  rfl

/-! The terms -/
def cvA : Tm := .op (.conv .f32 .f64) (.var 0) .nil
def isNg : Tm := .op (.flt .f32) (.var 0) (.fl 0)
def is0 : Tm := .op (.feq .f32) (.var 0) (.fl 0)
/-- The number without its sign, as the reference and as the program write it. -/
def b0S : Tm := .ite isNg (.op (.fneg .f64) cvA .nil) cvA
def b0I : Tm := .op (.fabs .f64) cvA .nil
def pcCb (b0 : Tm) : PC := [(.op (.ffin .f32) (.var 0) .nil, true), (.ite is0 (.bl true) (leW b0 cmax).1, true), (.ite is0 (.bl true) (geW cmin b0).1, true)]
def cbU (b0 : Tm) : Tm := .app 30 (listT [b0, .fl c1, .var 0])
def cbD (b0 : Tm) : Tm := .app 31 (listT [.nth 0 (cbU b0), .nth 1 (cbU b0), .var 0])
def cbN (b0 : Tm) : Tm := .app 32 (listT [.fl c15, .il 0, .nth 0 (cbD b0), .nth 1 (cbD b0), .var 0])
def cbY (b0 : Tm) : Tm := .op (.fmul .f64) (.nth 0 (cbN b0)) (.nth 1 (cbD b0))
def CBs : Tm := .ite is0 (listT [.fl 0, .il 0]) (listT [.ite isNg (.op (.fneg .f32) (.op (.conv .f64 .f32) (cbY b0S) .nil) .nil) (.op (.conv .f64 .f32) (cbY b0S) .nil), .il 0])
def CBi : Tm := listT [.ite is0 (.fl 0) (.ite isNg (.op (.conv .f64 .f32) (.op (.fneg .f64) (cbY b0I) .nil) .nil) (.op (.conv .f64 .f32) (cbY b0I) .nil))]

section
variable {E : Env}
theorem b0_eq (hf : F.fin .f32 (E.v 0).toF = true) (h0 : (is0.den E).toB = false) : ∃ z, b0S.den E = .f z ∧ b0I.den E = .f z ∧ cmin ≤ z ∧ z ≤ cmax := by
  obtain ⟨s, z, h1, h2, h3⟩ := cv_fin hf
  obtain ⟨h4, h5⟩ := h3 h0
  have hz : z < double.infRung := Nat.lt_of_le_of_lt h2 (by decide)
  have hc : cvA.den E = .f (double.word s z) := by
    show Sc.f (F.conv .f32 .f64 (E.v 0).toF) = _
    rw [h1]
  have hng : (isNg.den E).toB = s := h5
  refine ⟨z, ?_, ?_, h4, h2⟩
  · simp only [b0S, Tm.den, hng, hc]
    cases s
    · simp only [Bool.false_eq_true, if_false]; rw [word_pos]
    · simp only [if_true, Opc.den, Sc.toF_f]; rw [neg_word hz]
  · simp only [b0I, Tm.den, hc, Opc.den, Sc.toF_f]
    rw [abs_word hz]
theorem pcCb_ok (hf : F.fin .f32 (E.v 0).toF = true) : PcOk E (pcCb b0S) ∧ PcOk E (pcCb b0I) := by
  have key : ∀ b0 : Tm, ((is0.den E).toB = false → ∃ z, b0.den E = .f z ∧ cmin ≤ z ∧ z ≤ cmax) → PcOk E (pcCb b0) := by
    intro b0 h p hp
    rcases List.mem_cons.1 hp with rfl | hp
    · exact hf
    · have one : ∀ q : Tm × Bool, ((is0.den E).toB = false → (q.1.den E).toB = true) → ((Tm.ite is0 (.bl true) q.1).den E).toB = true := by
        intro q hq
        simp only [Tm.den]
        cases hc : (is0.den E).toB with
        | true => rfl
        | false => simp only [Bool.false_eq_true, if_false]; exact hq hc
      rcases List.mem_cons.1 hp with rfl | hp
      · refine one (leW b0 cmax) fun h0 => ?_
        obtain ⟨z, e, _, h2⟩ := h h0
        exact leW_iff.2 (by rw [e]; exact h2)
      · rcases List.mem_cons.1 hp with rfl | hp
        · refine one (geW cmin b0) fun h0 => ?_
          obtain ⟨z, e, h1, _⟩ := h h0
          exact geW_iff.2 (by rw [e]; exact h1)
        · cases hp
  exact ⟨key _ fun h0 => by obtain ⟨z, e, _, h1, h2⟩ := b0_eq hf h0; exact ⟨z, e, h1, h2⟩, key _ fun h0 => by obtain ⟨z, _, e, h1, h2⟩ := b0_eq hf h0; exact ⟨z, e, h1, h2⟩⟩
/-- The product that is made single is not great. -/
theorem y_le (h30 : ∀ c, E.fn 30 c = upF c) (h31 : ∀ c, E.fn 31 c = dnF c) (h32 : ∀ c, E.fn 32 c = nwF c) {b0 : Tm} (h1 : cmin ≤ (b0.den E).toF) (h2 : (b0.den E).toF ≤ cmax) : ((cbY b0).den E).toF ≤ F.mul .f64 c64 x43 := by
  have eU : (cbU b0).den E = .cons (upR (b0.den E) (.f c1)).1 (.cons (upR (b0.den E) (.f c1)).2 (.cons (E.v 0) .nil)) := by
    show E.fn 30 _ = _
    rw [h30]; rfl
  obtain ⟨g1, g2⟩ := up_rounds (pl := []) (m := 1) (fn := E) (rest := [E.v 0]) rfl 42 0 (b0.den E) (.f c1) rfl h2 h1 rfl
  obtain ⟨g3, _⟩ := g1.end_
  have k1 := geW_iff.1 (g3 _ (List.mem_cons_self ..))
  have k2 := leW_iff.1 (g3 _ (List.mem_cons_of_mem _ (List.mem_cons_self ..)))
  have k1 : cmin ≤ (upR (b0.den E) (.f c1)).1.toF := k1
  have k2 : (upR (b0.den E) (.f c1)).2.toF ≤ x43 := k2
  have g2 : (upR (b0.den E) (.f c1)).1.toF ≤ c8 - 1 := g2
  generalize hb1 : (upR (b0.den E) (.f c1)).1 = B1 at *
  generalize hx1 : (upR (b0.den E) (.f c1)).2 = X1 at *
  have eD : (cbD b0).den E = .cons (dnR B1 X1).1 (.cons (dnR B1 X1).2 (.cons (E.v 0) .nil)) := by
    show E.fn 31 (.cons (((cbU b0).den E).at_ 0) (.cons (((cbU b0).den E).at_ 1) (.cons (E.v 0) .nil))) = _
    rw [h31, eU]; rfl
  obtain ⟨r1, r2⟩ := dn_rounds (pl := []) (m := 1) (fn := E) (rest := [E.v 0]) rfl 50 0 B1 X1 rfl k1 g2 k2
  obtain ⟨r3, _⟩ := r1.end_
  have q1 := leW_iff.1 (r3 _ (List.mem_cons_self ..))
  have q2 := leW_iff.1 (r3 _ (List.mem_cons_of_mem _ (List.mem_cons_self ..)))
  have q1 : (dnR B1 X1).1.toF ≤ c8 - 1 := q1
  have q2 : (dnR B1 X1).2.toF ≤ x43 := q2
  have r2 : c1 ≤ (dnR B1 X1).1.toF := r2
  generalize hb2 : (dnR B1 X1).1 = B2 at *
  generalize hx2 : (dnR B1 X1).2 = X2 at *
  have eN : (cbN b0).den E = .cons (nwR (.f c15) (.i 0) B2).1 (.cons (nwR (.f c15) (.i 0) B2).2 (.cons B2 (.cons X2 (.cons (E.v 0) .nil)))) := by
    show E.fn 32 (.cons (.f c15) (.cons (.i 0) (.cons (((cbD b0).den E).at_ 0) (.cons (((cbD b0).den E).at_ 1) (.cons (E.v 0) .nil))))) = _
    rw [h32, eD]; rfl
  have hr : (nwR (.f c15) (.i 0) B2).1.toF ≤ c64 := by
    rw [nwR, nw_r]
    exact newt6_le r2 (Nat.lt_of_le_of_lt q1 (by decide))
  have eY : ((cbY b0).den E).toF = F.mul .f64 (nwR (.f c15) (.i 0) B2).1.toF X2.toF := by
    show F.mul .f64 (((cbN b0).den E).at_ 0).toF (((cbD b0).den E).at_ 1).toF = _
    rw [eN, eD]; rfl
  rw [eY]
  exact mul_bits (k := .f64) hr q2 (by rw [infD_eq]; decide) (by rw [infD_eq]; decide)
theorem cbY_eq {b b' : Tm} (h : b.den E = b'.den E) : (cbY b).den E = (cbY b').den E := by
  have hU : (cbU b).den E = (cbU b').den E := by simp only [cbU, listT, Tm.den, h]
  have hD : (cbD b).den E = (cbD b').den E := by simp only [cbD, listT, Tm.den, hU]
  have hN : (cbN b).den E = (cbN b').den E := by simp only [cbN, listT, Tm.den, hD]
  simp only [cbY, Tm.den, hN, hD]
/-- ONE VALUE. -/
theorem cb_same (h30 : ∀ c, E.fn 30 c = upF c) (h31 : ∀ c, E.fn 31 c = dnF c) (h32 : ∀ c, E.fn 32 c = nwF c) (hf : F.fin .f32 (E.v 0).toF = true) : (CBi.den E).at_ 0 = (CBs.den E).at_ 0 := by
  cases h0 : (is0.den E).toB with
  | true => simp only [CBi, CBs, listT, Tm.den, h0, if_true, Sc.at_zero]
  | false =>
    obtain ⟨z, e1, e2, z1, z2⟩ := b0_eq hf h0
    have hY := cbY_eq (b := b0I) (b' := b0S) (e2.trans e1.symm)
    have hle := y_le h30 h31 h32 (b0 := b0S) (by rw [e1]; exact z1) (by rw [e1]; exact z2)
    have hle' : ((cbY b0S).den E).toF ≤ topR := Nat.le_trans hle (Nat.le_of_ble_eq_true rx_top)
    obtain ⟨_, n2, _⟩ := narrow_neg hle'
    simp only [CBi, CBs, listT, Tm.den, h0, Bool.false_eq_true, if_false, Sc.at_zero, hY]
    cases hn : (isNg.den E).toB with
    | true => simp only [if_true, Opc.den, Sc.toF_f]; rw [n2]
    | false => simp only [Bool.false_eq_true, if_false]
end
end Go.Sx
set_option linter.unusedVariables false
set_option linter.unusedSimpArgs false
noncomputable section
namespace Go.Sx
open Go Ieee

def infS : Nat := 2139095040
theorem infS_eq : FloatKind.f32.format.infRung = infS := by decide
/-- A finite number of a size at most M. -/
def Sg (M x : Nat) : Prop := ∃ s z, x = single.word s z ∧ z ≤ M
theorem Sg.mono {M N x : Nat} (h : Sg M x) (hn : M ≤ N) : Sg N x := by
  obtain ⟨s, z, e, hz⟩ := h
  exact ⟨s, z, e, Nat.le_trans hz hn⟩
theorem Sg.pos {M x : Nat} (h : x ≤ M) : Sg M x := ⟨false, x, (word_pos single x).symm, h⟩
theorem sum_comm (a b : Datum) (h : ∀ s, a ≠ .infinity s) (h' : ∀ s, b ≠ .infinity s) : a.sum b = b.sum a := by
  cases a with
  | nan s t => cases b <;> rfl
  | infinity s => exact absurd rfl (h s)
  | number s m i =>
    cases b with
    | nan s t => rfl
    | infinity s => exact absurd rfl (h' s)
    | number t n j =>
      simp only [Datum.sum]
      rw [show min j i = min i j by omega, Int.add_comm (signed t n (j - min i j).toNat), Bool.and_comm t s]
theorem read_word {s : Bool} {z : Nat} (h : z < infS) : ∃ m e, FloatKind.f32.format.read (single.word s z) = .number s m e ∧ FloatKind.f32.format.read z = .number false m e := by
  have h' : z < FloatKind.f32.format.infRung := by rw [infS_eq]; exact h
  obtain ⟨m, e, h1, _, _⟩ := read_pos FloatKind.f32.format h'
  cases s
  · rw [word_pos]; exact ⟨m, e, h1, h1⟩
  · exact ⟨m, e, read_neg h' h1, h1⟩
theorem sub_as_add {x : Nat} {t : Bool} {b : Nat} (hb : b < infS) : F.sub .f32 x (single.word t b) = F.add .f32 x (single.word (!t) b) := by
  obtain ⟨m, e, h1, _⟩ := read_word (s := t) hb
  obtain ⟨m', e', h2, h3⟩ := read_word (s := !t) hb
  obtain ⟨m2, e2, h4, h5⟩ := read_word (s := t) hb
  rw [h1] at h4; cases h4
  rw [h3] at h5; cases h5
  unfold F.sub F.add Format.sub Format.add
  rw [h1, h2]
  rfl
theorem add_comm' {s t : Bool} {a b : Nat} (ha : a < infS) (hb : b < infS) : F.add .f32 (single.word s a) (single.word t b) = F.add .f32 (single.word t b) (single.word s a) := by
  obtain ⟨m, e, h1, _⟩ := read_word (s := s) ha
  obtain ⟨n, j, h2, _⟩ := read_word (s := t) hb
  unfold F.add Format.add
  rw [h1, h2, sum_comm _ _ (fun s h => by cases h) (fun s h => by cases h)]
theorem add_neg2 {a b : Nat} (ha : a < infS) (hb : b < infS) : F.add .f32 (single.word true a) (single.word true b) = single.word true (F.add .f32 a b) := by
  obtain ⟨m, i, h1, h1'⟩ := read_word (s := true) ha
  obtain ⟨n, j, h2, h2'⟩ := read_word (s := true) hb
  unfold F.add Format.add
  rw [h1, h2, h1', h2']
  simp only [Datum.sum, Option.map_some, Option.getD_some, Format.write]
  have s1 : signed true m (i - min i j).toNat = -((m * 2 ^ (i - min i j).toNat : Nat) : Int) := by simp [signed, Nat.shiftLeft_eq]
  have s2 : signed true n (j - min i j).toNat = -((n * 2 ^ (j - min i j).toNat : Nat) : Int) := by simp [signed, Nat.shiftLeft_eq]
  rw [s1, s2, signed_pos, signed_pos]
  generalize m * 2 ^ (i - min i j).toNat = A
  generalize n * 2 ^ (j - min i j).toNat = B
  have hneg : (if -(A : Int) + -(B : Int) = 0 then (true && true) else decide (-(A : Int) + -(B : Int) < 0)) = true := by
    split
    · rfl
    · exact decide_eq_true (by omega)
  have hpos : (if (A : Int) + (B : Int) = 0 then (false && false) else decide ((A : Int) + (B : Int) < 0)) = false := by
    split
    · rfl
    · exact decide_eq_false (by omega)
  rw [hneg, hpos, nearest_neg]
  congr 2
  omega
theorem add_sg {M N x y : Nat} (hM : M < infS) (hN : N < infS) (hx : Sg M x) (hy : Sg N y) : Sg (F.add .f32 M N) (F.add .f32 x y) := by
  obtain ⟨s, a, rfl, ha⟩ := hx
  obtain ⟨t, b, rfl, hb⟩ := hy
  have ha' : a < infS := by omega
  have hb' : b < infS := by omega
  have hai : a < FloatKind.f32.format.infRung := by rw [infS_eq]; exact ha'
  have hbi : b < FloatKind.f32.format.infRung := by rw [infS_eq]; exact hb'
  have hMi : M < FloatKind.f32.format.infRung := by rw [infS_eq]; exact hM
  have hNi : N < FloatKind.f32.format.infRung := by rw [infS_eq]; exact hN
  have top : F.add .f32 a b ≤ F.add .f32 M N := add_bits ha hb hMi hNi
  have mix : ∀ {p q : Nat}, p < FloatKind.f32.format.infRung → q < FloatKind.f32.format.infRung → p ≤ F.add .f32 M N → q ≤ F.add .f32 M N → Sg (F.add .f32 M N) (F.add .f32 p (single.word true q)) := by
    intro p q hp hq h1 h2
    have e : F.add .f32 p (single.word true q) = F.sub .f32 p q := by
      have := sub_as_add (x := p) (t := false) (b := q) (by rw [← infS_eq]; exact hq)
      rw [word_pos] at this
      exact this.symm
    rw [e]
    rcases Nat.lt_or_ge p q with h | h
    · rw [sub_less hq h]
      exact ⟨true, _, rfl, Nat.le_trans (sub_le_self hq (by omega)) h2⟩
    · exact Sg.pos (Nat.le_trans (sub_le_self hp h) h1)
  have la : a ≤ F.add .f32 M N := Nat.le_trans ha (le_add_self hMi hNi)
  have lb : b ≤ F.add .f32 M N := by
    have := add_comm' (s := false) (t := false) hM hN
    rw [word_pos, word_pos] at this
    rw [this]
    exact Nat.le_trans hb (le_add_self hNi hMi)
  cases s
  · cases t
    · rw [word_pos, word_pos]; exact Sg.pos top
    · rw [word_pos]; exact mix hai hbi la lb
  · cases t
    · rw [add_comm' ha' hb', word_pos]; exact mix hbi hai lb la
    · rw [add_neg2 ha' hb']; exact ⟨true, _, rfl, top⟩
theorem sub_sg {M N x y : Nat} (hM : M < infS) (hN : N < infS) (hx : Sg M x) (hy : Sg N y) : Sg (F.add .f32 M N) (F.sub .f32 x y) := by
  obtain ⟨t, b, rfl, hb⟩ := hy
  rw [sub_as_add (by omega)]
  exact add_sg hM hN hx ⟨!t, b, rfl, hb⟩
theorem mul_word {s t : Bool} {a b : Nat} (ha : a < infS) (hb : b < infS) : F.mul .f32 (single.word s a) (single.word t b) = single.word (s ^^ t) (F.mul .f32 a b) := by
  obtain ⟨m, i, h1, h1'⟩ := read_word (s := s) ha
  obtain ⟨n, j, h2, h2'⟩ := read_word (s := t) hb
  unfold F.mul Format.mul
  rw [h1, h2, h1', h2']
  simp only [Datum.product, Option.map_some, Option.getD_some, Format.write]
  rw [nearest_neg, show (false ^^ false) = false from rfl]
  rfl
theorem mul_sg {M N x y : Nat} (hM : M < infS) (hN : N < infS) (hx : Sg M x) (hy : Sg N y) : Sg (F.mul .f32 M N) (F.mul .f32 x y) := by
  obtain ⟨s, a, rfl, ha⟩ := hx
  obtain ⟨t, b, rfl, hb⟩ := hy
  rw [mul_word (by omega) (by omega)]
  exact ⟨_, _, rfl, mul_bits ha hb (by rw [infS_eq]; exact hM) (by rw [infS_eq]; exact hN)⟩
theorem sq_le {M x : Nat} (hM : M < infS) (hx : Sg M x) : F.mul .f32 x x ≤ F.mul .f32 M M := by
  obtain ⟨s, a, rfl, ha⟩ := hx
  rw [mul_word (by omega) (by omega)]
  have : (s ^^ s) = false := by cases s <;> rfl
  rw [this, word_pos]
  exact mul_bits ha ha (by rw [infS_eq]; exact hM) (by rw [infS_eq]; exact hM)
theorem Sg.fin {M x : Nat} (hM : M < infS) (hx : Sg M x) : F.fin .f32 x = true := by
  obtain ⟨s, a, rfl, ha⟩ := hx
  exact fin_word (k := .f32) (by rw [infS_eq]; omega)

/-! Roots -/
theorem conv_top {x : Nat} (h : x < infS) : F.conv .f32 .f64 x ≤ topY := by
  have h' : x < single.infRung := by have := infS_eq; exact this ▸ h
  obtain ⟨m, e, h1, h2, h3⟩ := read_pos single h'
  have hslp : single.leastPlace = -149 := by decide
  rw [hslp] at h2 h3
  have e1 : F.conv .f32 .f64 x = double.nearest false m e := by
    unfold F.conv
    simp only [reduceCtorEq, if_false]
    show (match single.read x with
      | .nan _ _ => nanOf .f64
      | y => double.write y) = _
    rw [h1]
    rfl
  rw [e1, nearest_RgN double (b := -1074) (by omega) (by decide)]
  have a1 : ∀ q : Nat, q = 925 → m * 2 ^ (e - -1074).toNat ≤ valN single (single.infRung - 1) * 2 ^ q := by
    intro q hq
    have : m * 2 ^ (e - -1074).toNat = m * 2 ^ (e - -149).toNat * 2 ^ q := by
      rw [Nat.mul_assoc, ← Nat.pow_add]; congr 2; omega
    rw [this, h3]
    exact Nat.mul_le_mul_right _ (valN_le.2 (by omega))
  refine Nat.le_trans (RgN_mono double (by decide) (a1 _ rfl)) ?_
  have a3 : Rg double (valN single (single.infRung - 1) * 2 ^ 925) (-1074) = topY := Nat.eq_of_beq_eq_true k2
  unfold RgN
  split
  · exact Nat.zero_le _
  · rw [a3]; exact Nat.min_le_left ..
theorem sqrt_top {r : Nat} (h : r ≤ topY) : F.sqrt r ≤ topR := by
  have hdlp : double.leastPlace = -1074 := by decide
  by_cases h0 : r = 0
  · subst h0; decide +kernel
  have hlt : r < double.infRung := Nat.lt_of_le_of_lt h (by decide)
  obtain ⟨m', i', g1, g2, g3⟩ := read_pos double hlt
  rw [hdlp] at g2 g3
  have hm' : m' ≠ 0 := by
    rintro rfl
    rw [Nat.zero_mul] at g3
    exact h0 (valN_zero.1 g3.symm)
  have hb : (m'.log2 : Int) + i' ≤ 127 := by
    have a1 : 2 ^ m'.log2 ≤ m' := Nat.log2_self_le hm'
    have a2 : 2 ^ m'.log2 * 2 ^ (i' - -1074).toNat ≤ valN double topY := by
      refine Nat.le_trans (Nat.mul_le_mul_right _ a1) ?_
      rw [g3]; exact valN_le.2 h
    rw [← Nat.pow_add] at a2
    have a4 : ∀ q : Nat, Nat.blt (valN double topY) (2 ^ q) = true → m'.log2 + (i' - -1074).toNat < q := fun q hq =>
      (Nat.pow_lt_pow_iff_right (by omega : 1 < 2)).1 (Nat.lt_of_le_of_lt a2 (by simpa [Nat.blt_eq] using hq))
    have a5 := a4 _ k3
    omega
  show ((Datum.root 54 (double.read r)).map double.write).getD (nanOf .f64) ≤ topR
  rw [g1]
  cases hd' : Datum.root 54 (.number false m' i') with
  | none => simp [Datum.root, hm'] at hd'
  | some d => exact root_small hm' hb (by omega) hd'
def rootF (x : Nat) : Nat := F.conv .f64 .f32 (F.sqrt (F.conv .f32 .f64 x))
theorem root_lt {x : Nat} (h : x < infS) : rootF x < infS := by
  have := (narrow_neg (sqrt_top (conv_top h))).2.2
  rw [infS_eq] at this
  exact this

/-! The difference of two looks -/
def c001 : Nat := 1008981770
def oneS : Nat := 1065353216
def diffF (u0 u1 u2 v0 v1 v2 : Nat) : Nat :=
  rootF (F.add .f32 (F.mul .f32 (F.sub .f32 u0 v0) (F.sub .f32 u0 v0))
    (F.div .f32 (F.add .f32 (F.mul .f32 (F.sub .f32 u1 v1) (F.sub .f32 u1 v1)) (F.mul .f32 (F.sub .f32 u2 v2) (F.sub .f32 u2 v2)))
      (F.mul .f32 (F.add .f32 oneS (F.mul .f32 c001 (rootF (F.add .f32 (F.mul .f32 u1 u1) (F.mul .f32 u2 u2))))) (F.add .f32 oneS (F.mul .f32 c001 (rootF (F.add .f32 (F.mul .f32 u1 u1) (F.mul .f32 u2 u2))))))))
theorem div_inf {x : Nat} (hx : x < infS) : F.div .f32 x infS = 0 := by
  obtain ⟨m, e, h1, _, _⟩ := read_pos FloatKind.f32.format (x := x) (by rw [infS_eq]; exact hx)
  have h2 : FloatKind.f32.format.read infS = .infinity false := by decide
  unfold F.div Format.div
  rw [h1, h2]
  rfl
theorem diff_fin {M0 M1 M2 u0 u1 u2 v0 v1 v2 : Nat} (h0 : M0 < infS) (h1 : M1 < infS) (h2 : M2 < infS)
    (hu0 : Sg M0 u0) (hv0 : Sg M0 v0) (hu1 : Sg M1 u1) (hv1 : Sg M1 v1) (hu2 : Sg M2 u2) (hv2 : Sg M2 v2)
    (d0 : F.add .f32 M0 M0 < infS) (d1 : F.add .f32 M1 M1 < infS) (d2 : F.add .f32 M2 M2 < infS)
    (s0 : F.mul .f32 (F.add .f32 M0 M0) (F.add .f32 M0 M0) < infS) (s1 : F.mul .f32 (F.add .f32 M1 M1) (F.add .f32 M1 M1) < infS) (s2 : F.mul .f32 (F.add .f32 M2 M2) (F.add .f32 M2 M2) < infS)
    (q1 : F.mul .f32 M1 M1 < infS) (q2 : F.mul .f32 M2 M2 < infS) (q12 : F.add .f32 (F.mul .f32 M1 M1) (F.mul .f32 M2 M2) < infS)
    (s12 : F.add .f32 (F.mul .f32 (F.add .f32 M1 M1) (F.add .f32 M1 M1)) (F.mul .f32 (F.add .f32 M2 M2) (F.add .f32 M2 M2)) < infS)
    (t12 : F.add .f32 (F.add .f32 (F.mul .f32 (F.add .f32 M1 M1) (F.add .f32 M1 M1)) (F.mul .f32 (F.add .f32 M2 M2) (F.add .f32 M2 M2))) (F.add .f32 (F.mul .f32 (F.add .f32 M1 M1) (F.add .f32 M1 M1)) (F.mul .f32 (F.add .f32 M2 M2) (F.add .f32 M2 M2))) < infS)
    (all : F.add .f32 (F.mul .f32 (F.add .f32 M0 M0) (F.add .f32 M0 M0)) (F.add .f32 (F.add .f32 (F.mul .f32 (F.add .f32 M1 M1) (F.add .f32 M1 M1)) (F.mul .f32 (F.add .f32 M2 M2) (F.add .f32 M2 M2))) (F.add .f32 (F.mul .f32 (F.add .f32 M1 M1) (F.add .f32 M1 M1)) (F.mul .f32 (F.add .f32 M2 M2) (F.add .f32 M2 M2)))) < infS) :
    F.fin .f32 (diffF u0 u1 u2 v0 v1 v2) = true := by
  have i : ∀ {n : Nat}, n < infS → n < FloatKind.f32.format.infRung := fun h => by rw [infS_eq]; exact h
  have a0 := sq_le d0 (sub_sg h0 h0 hu0 hv0)
  have a1 := sq_le d1 (sub_sg h1 h1 hu1 hv1)
  have a2 := sq_le d2 (sub_sg h2 h2 hu2 hv2)
  have b1 := sq_le h1 hu1
  have b2 := sq_le h2 hu2
  have b12 := add_bits (k := .f32) b1 b2 (i q1) (i q2)
  have a12 := add_bits (k := .f32) a1 a2 (i s1) (i s2)
  unfold diffF
  have hr := root_lt (x := F.add .f32 (F.mul .f32 u1 u1) (F.mul .f32 u2 u2)) (by omega)
  generalize rootF (F.add .f32 (F.mul .f32 u1 u1) (F.mul .f32 u2 u2)) = R at *
  generalize F.mul .f32 (F.sub .f32 u0 v0) (F.sub .f32 u0 v0) = Q0 at *
  generalize F.add .f32 (F.mul .f32 (F.sub .f32 u1 v1) (F.sub .f32 u1 v1)) (F.mul .f32 (F.sub .f32 u2 v2) (F.sub .f32 u2 v2)) = Q12 at *
  -- the weight
  have c1 : F.mul .f32 c001 R < infS := by
    have k : Nat.blt (F.mul .f32 c001 (infS - 1)) infS = true := by kernel_rfl
    exact Nat.lt_of_le_of_lt (mul_bits (k := .f32) (Nat.le_refl _) (show R ≤ infS - 1 by omega) (i (by decide)) (i (by decide))) (blt_lt k)
  have c1' : F.mul .f32 c001 R ≤ F.mul .f32 c001 (infS - 1) := mul_bits (k := .f32) (Nat.le_refl _) (show R ≤ infS - 1 by omega) (i (by decide)) (i (by decide))
  have cA : F.add .f32 oneS (F.mul .f32 c001 R) < infS := by
    have k : Nat.blt (F.add .f32 oneS (F.mul .f32 c001 (infS - 1))) infS = true := by kernel_rfl
    have k' : Nat.blt (F.mul .f32 c001 (infS - 1)) infS = true := by kernel_rfl
    exact Nat.lt_of_le_of_lt (add_bits (k := .f32) (Nat.le_refl _) c1' (i (by decide)) (i (blt_lt k'))) (blt_lt k)
  have cB : oneS ≤ F.add .f32 oneS (F.mul .f32 c001 R) := le_add_self (i (by decide)) (i c1)
  generalize F.add .f32 oneS (F.mul .f32 c001 R) = A at *
  have hQ12 : Q12 < infS := by omega
  have hq : F.div .f32 Q12 (F.mul .f32 A A) ≤ F.add .f32 Q12 Q12 := by
    have hle : F.mul .f32 A A ≤ infS := by rw [← infS_eq]; exact mul_top (i cA) (i cA)
    have hge : oneS ≤ F.mul .f32 A A := by
      have k : Nat.beq (F.mul .f32 oneS oneS) oneS = true := by kernel_rfl
      have := mul_bits (k := .f32) cB cB (i cA) (i cA)
      rw [Nat.eq_of_beq_eq_true k] at this
      exact this
    rcases Nat.lt_or_ge (F.mul .f32 A A) infS with h | h
    · have h3 := div_bits (k := .f32) (x := Q12) (y := F.mul .f32 A A) (i hQ12) (i h) (Nat.le_trans (oneR_val .f32) (valN_le.2 (show oneR .f32 ≤ _ from hge)))
      rw [← add_pos (i hQ12) (i hQ12)] at h3
      exact h3
    · have : F.mul .f32 A A = infS := by omega
      rw [this, div_inf hQ12]; exact Nat.zero_le _
  have hq2 : F.add .f32 Q12 Q12 ≤ _ := add_bits (k := .f32) a12 a12 (i s12) (i s12)
  have hlast := add_bits (k := .f32) a0 (Nat.le_trans hq hq2) (i s0) (i t12)
  have hfin := root_lt (x := F.add .f32 Q0 (F.div .f32 Q12 (F.mul .f32 A A))) (by omega)
  exact fin_pos (i hfin)
end Go.Sx
set_option linter.unusedVariables false
set_option linter.unusedSimpArgs false
noncomputable section
namespace Go.Sx
open Go Ieee

theorem narrow_val {w : Nat} (h : w ≤ topR) : F.conv .f64 .f32 w = RgN single (valN double w) (-1074) := by
  have hlt : w < double.infRung := Nat.lt_of_le_of_lt h (by decide)
  obtain ⟨m, e, h1, h2⟩ := narrow_pos hlt
  rw [h1] at h2
  unfold F.conv
  simp only [reduceCtorEq, if_false]
  show (match double.read w with
    | .nan _ _ => nanOf .f32
    | y => single.write y) = _
  rw [h1]
  exact h2
def R0 : Nat := F.conv .f64 .f32 (F.mul .f64 c64 x43)
theorem R0_k : Nat.blt R0 infS = true := by kernel_rfl
theorem R0_lt : R0 < infS := blt_lt R0_k
theorem narrow_R0 {w : Nat} (h : w ≤ F.mul .f64 c64 x43) : F.conv .f64 .f32 w ≤ R0 := by
  have ht : F.mul .f64 c64 x43 ≤ topR := Nat.le_of_ble_eq_true rx_top
  rw [R0, narrow_val (Nat.le_trans h ht), narrow_val ht]
  exact RgN_mono single (by decide) (valN_le.2 h)
theorem cb_sg {E : Env} (h30 : ∀ c, E.fn 30 c = upF c) (h31 : ∀ c, E.fn 31 c = dnF c) (h32 : ∀ c, E.fn 32 c = nwF c) (hf : F.fin .f32 (E.v 0).toF = true) : Sg R0 ((CBs.den E).at_ 0).toF := by
  cases h0 : (is0.den E).toB with
  | true =>
    simp only [CBs, listT, Tm.den, h0, if_true, Sc.at_zero, Sc.toF_f]
    exact Sg.pos (Nat.zero_le _)
  | false =>
    obtain ⟨z, e1, _, z1, z2⟩ := b0_eq hf h0
    have hle := y_le h30 h31 h32 (b0 := b0S) (by rw [e1]; exact z1) (by rw [e1]; exact z2)
    have hR := narrow_R0 hle
    simp only [CBs, listT, Tm.den, h0, Bool.false_eq_true, if_false, Sc.at_zero]
    cases hn : (isNg.den E).toB with
    | true =>
      simp only [if_true, Opc.den, Sc.toF_f]
      refine ⟨true, _, neg_pos .f32 ?_, hR⟩
      rw [infS_eq]; exact Nat.lt_of_le_of_lt hR R0_lt
    | false =>
      simp only [Bool.false_eq_true, if_false, Opc.den, Sc.toF_f]
      exact Sg.pos hR
def c116 : Nat := 1122500608
def c16 : Nat := 1098907648
def c500 : Nat := 1140457472
def c200 : Nat := 1128792064
def M0 : Nat := F.add .f32 (F.mul .f32 c116 R0) c16
def M1 : Nat := F.mul .f32 c500 (F.add .f32 R0 R0)
def M2 : Nat := F.mul .f32 c200 (F.add .f32 R0 R0)
theorem look_sg {f0 f1 f2 : Nat} (h0 : Sg R0 f0) (h1 : Sg R0 f1) (h2 : Sg R0 f2) :
    Sg M0 (F.sub .f32 (F.mul .f32 c116 f1) c16) ∧ Sg M1 (F.mul .f32 c500 (F.sub .f32 f0 f1)) ∧ Sg M2 (F.mul .f32 c200 (F.sub .f32 f1 f2)) := by
  have k1 : Nat.blt (F.mul .f32 c116 R0) infS = true := by kernel_rfl
  have k2 : Nat.blt (F.add .f32 R0 R0) infS = true := by kernel_rfl
  have c : ∀ n, Nat.blt n infS = true → Sg n n := fun n _ => Sg.pos (Nat.le_refl _)
  have l116 : c116 < infS := by decide
  have l16 : c16 < infS := by decide
  have l500 : c500 < infS := by decide
  have l200 : c200 < infS := by decide
  refine ⟨sub_sg (blt_lt k1) l16 (mul_sg l116 R0_lt (c _ (by decide)) h1) (c _ (by decide)), mul_sg l500 (blt_lt k2) (c _ (by decide)) (sub_sg R0_lt R0_lt h0 h1), mul_sg l200 (blt_lt k2) (c _ (by decide)) (sub_sg R0_lt R0_lt h1 h2)⟩
/-- How different two looks are is finite. -/
theorem looks_fin {u0 u1 u2 v0 v1 v2 : Nat} (hu0 : Sg M0 u0) (hu1 : Sg M1 u1) (hu2 : Sg M2 u2) (hv0 : Sg M0 v0) (hv1 : Sg M1 v1) (hv2 : Sg M2 v2) : F.fin .f32 (diffF u0 u1 u2 v0 v1 v2) = true := by
  have k : ((((Nat.blt M0 infS && Nat.blt M1 infS) && (Nat.blt M2 infS && Nat.blt (F.add .f32 M0 M0) infS)) && ((Nat.blt (F.add .f32 M1 M1) infS && Nat.blt (F.add .f32 M2 M2) infS) && (Nat.blt (F.mul .f32 (F.add .f32 M0 M0) (F.add .f32 M0 M0)) infS && Nat.blt (F.mul .f32 (F.add .f32 M1 M1) (F.add .f32 M1 M1)) infS))) && (((Nat.blt (F.mul .f32 (F.add .f32 M2 M2) (F.add .f32 M2 M2)) infS && Nat.blt (F.mul .f32 M1 M1) infS) && (Nat.blt (F.mul .f32 M2 M2) infS && Nat.blt (F.add .f32 (F.mul .f32 M1 M1) (F.mul .f32 M2 M2)) infS)) && ((Nat.blt (F.add .f32 (F.mul .f32 (F.add .f32 M1 M1) (F.add .f32 M1 M1)) (F.mul .f32 (F.add .f32 M2 M2) (F.add .f32 M2 M2))) infS && Nat.blt (F.add .f32 (F.add .f32 (F.mul .f32 (F.add .f32 M1 M1) (F.add .f32 M1 M1)) (F.mul .f32 (F.add .f32 M2 M2) (F.add .f32 M2 M2))) (F.add .f32 (F.mul .f32 (F.add .f32 M1 M1) (F.add .f32 M1 M1)) (F.mul .f32 (F.add .f32 M2 M2) (F.add .f32 M2 M2)))) infS) && Nat.blt (F.add .f32 (F.mul .f32 (F.add .f32 M0 M0) (F.add .f32 M0 M0)) (F.add .f32 (F.add .f32 (F.mul .f32 (F.add .f32 M1 M1) (F.add .f32 M1 M1)) (F.mul .f32 (F.add .f32 M2 M2) (F.add .f32 M2 M2))) (F.add .f32 (F.mul .f32 (F.add .f32 M1 M1) (F.add .f32 M1 M1)) (F.mul .f32 (F.add .f32 M2 M2) (F.add .f32 M2 M2))))) infS))) = true := by kernel_rfl
  simp only [Bool.and_eq_true] at k
  obtain ⟨⟨⟨⟨a1, a2⟩, a3, a4⟩, ⟨a5, a6⟩, a7, a8⟩, ⟨⟨a9, a10⟩, a11, a12⟩, ⟨a13, a14⟩, a15⟩ := k
  exact diff_fin (blt_lt a1) (blt_lt a2) (blt_lt a3) hu0 hv0 hu1 hv1 hu2 hv2 (blt_lt a4) (blt_lt a5) (blt_lt a6) (blt_lt a7) (blt_lt a8) (blt_lt a9) (blt_lt a10) (blt_lt a11) (blt_lt a12) (blt_lt a13) (blt_lt a14) (blt_lt a15)
end Go.Sx
