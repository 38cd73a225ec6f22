/- Drops and parts: what they reflect and how far they are off a target; names for it. No condition. -/
import Derived.Test.YtfdpcmijifdfeaaGreatMc
import Derived.Test.YtfdpcmijifdfeaaGreatSxIter
import Derived.Test.YtfdpcmijifdfeaaGreatSxPart
set_option linter.unusedVariables false
set_option linter.unusedSimpArgs false
set_option maxRecDepth 100000
noncomputable section
namespace Go.Proofs.YtfdpcmijifdfeaaGreat.Leaf
open Go.Sx
def rpB : Rp := (false, [(false, [.bool])])
def rpO : Rp := (true, [(false, [.float .f32]), (false, [.int .i64])])
def asA (n : Nat) : PC := [(.op .eqi (.var 0) (.il (.ofNat n)), true)]
def raI (n : Nat) : Out Res := callQ Tryz.prog cxB 1000 34 [.sc i64, .agg d6] (asA n)
def raS (n : Nat) : Out Res := callQ Tryz.prog cxB 1000 28 [.ptS n pgs t6, .agg d6] []
def W64 (j : Nat) : Tm := .op (.wrap .i64) (.var j) .nil
def totW (n : Nat) : Nat → Tm
  | 0 => .il 0
  | m + 1 => .op (.addi .i64) (totW n m) (match Nat.blt m n with | true => W64 m | false => .var m)
/-- m numbers, from variable j on, are drops of n pigments; and not all are nought. -/
def adT (n : Nat) : Nat → Nat → Tm
  | 0, _ => .op .lti (.il 0) (totW n 6)
  | m + 1, j => .ite (.op .lei (.il 0) (W64 j)) (.ite (.op .lei (W64 j) (.il 1000)) (match Nat.blt j n with
    | true => adT n m (j + 1)
    | false => .ite (.op .eqi (.var j) (.il 0)) (adT n m (j + 1)) (.bl false)) (.bl false)) (.bl false)
def AD (n : Nat) : Tm := .cons (adT n 6 0) .nil
/-! Drops: whole numbers, not below nought, none behind the pigments, and not all nought -/
def wkJ (n q : Nat) : Nat → PC
  | 0 => []
  | m + 1 => wkJ n q m ++ ((.op .lei (.il 0) (.var (q + m)), true) :: (.op .lei (.var (q + m)) (.il 1200), true) :: (match Nat.blt m n with
    | true => []
    | false => [(.op .eqi (.var (q + m)) (.il 0), true)]))
def totD (q : Nat) : Nat → Tm
  | 0 => .il 0
  | m + 1 => .op (.addi .i64) (totD q m) (.var (q + m))
def wkN (n q : Nat) : PC := wkJ n q 6 ++ [(.op .lti (.il 0) (totD q 6), true)]
def wk2 (n : Nat) : PC := wkN n (6 + 34 * n)
def adF (n q : Nat) : Tm × Bool := (.nth 0 (.app (60 + n) (listT (varsL 6 q))), true)
/-! What is reckoned -/
def paN (n : Nat) : List Pa := [.ptS n pgs t6, .agg f6]
def paU (n : Nat) : List Pa := [.aggS n pgs t6, .agg f6]
def paW (n : Nat) : List Pa := [.aggS n pgs t6, .agg d6]
def paD (n : Nat) : List Pa := [.aggS n pgs t6, .agg d6, .agg f16]
def paE (n : Nat) : List Pa := [.ptS n pgs t6, .agg d6, .agg f16]
def paG (n : Nat) : List Pa := [.pt (.bool :: (f16 ++ times [.float .f32] 3)), .ptS n pgs t6, .agg f6]
def oCS (n : Nat) : Out Res := callQ Tryz.prog cxC 1000 72 (paN n) (asM n)
def CD (n : Nat) : Tm := (treeT rpC (oCS n)).getD .nil
def elC (f : Nat) : Sum := call cxC Tryz.prog 1000 f
def cvS (n : Nat) : Sum := sumR (paN n) (asM n) rpC 17 (250 + n) (elC 72)
def cxV : Ctx := ctxL ((72, disp shPtr2 cvS (elC 72)) :: (106, disp shArg2 mxI (call cxB Tryz.prog 1000 106)) :: (99, disp shPtr2 mxS (call cxB Tryz.prog 1000 99)) :: (100, thick 100) :: (78, thick 78) :: (74, offS 74) :: (57, offS 57) :: orL (ctxL l3) Tryz.prog 1000 l5)
def upto : Nat → Nat → List Nat
  | 0, _ => []
  | m + 1, n => n :: upto m (n + 1)
/-- Where shelf, parts and target lie among a goal's arguments; and the other way round. -/
def piG (n : Nat) : List Nat := upto (12 + 34 * n) 20 ++ upto 16 1
def pjG (n : Nat) : List Tm := (.nil :: varsL 16 (12 + 34 * n)) ++ ([.nil, .nil, .nil] ++ varsL (12 + 34 * n) 0)
def asG (n : Nat) : PC := (.var 0, false) :: substF (selV (piG n)) (asM n)
def oG (n : Nat) : Out Res := callQ Tryz.prog cxV 1000 51 (paG n) (asG n)
def OD (n : Nat) : Tm := ((treeT rpO (oG n)).getD .nil).subst (pjG n)
/-- The parts of drops. -/
def PT (q : Nat) : Nat → List Tm
  | 0 => []
  | m + 1 => PT q m ++ [.op (.fdiv .f32) (.op (.i2f .f32) (.var (q + m)) .nil) (.op (.i2f .f32) (totD q 6) .nil)]
def usW (n : Nat) : List Tm := varsL (6 + 34 * n) 0 ++ PT (6 + 34 * n) 6
def usO (n : Nat) : List Tm := usW n ++ varsL 16 (12 + 34 * n)
def asW (n : Nat) : PC := okS n ++ (wk2 n ++ [adF n (6 + 34 * n)])
def asE (n : Nat) : PC := okS n ++ wk2 n
def DsG : List (Nat × Tm) := (266, OD 6) :: (265, OD 5) :: (264, OD 4) :: (263, OD 3) :: (262, OD 2) :: (261, OD 1) :: (256, CD 6) :: (255, CD 5) :: (254, CD 4) :: (253, CD 3) :: (252, CD 2) :: (251, CD 1) :: (236, DM 6) :: (235, DM 5) :: (234, DM 4) :: (233, DM 3) :: (232, DM 2) :: (231, DM 1) :: (66, AD 6) :: (65, AD 5) :: (64, AD 4) :: (63, AD 3) :: (62, AD 2) :: (61, AD 1) :: Ds3

theorem wg64 {x : Int} (h0 : -4611686018427387904 ≤ x) (h1 : x ≤ 4611686018427387904) : IntKind.i64.wrap x = x := wrap_in .i64 (by rw [← kmin_eq]; show (-9223372036854775808 : Int) ≤ _; omega) (by rw [← kmax_eq]; show _ ≤ (9223372036854775807 : Int); omega)
section
variable {E : Env}
/-! What follows of drops' being valid -/
theorem ite_b {c x : Sc} (h : (if c.toB = true then x else Sc.b false).toB = true) : c.toB = true ∧ x.toB = true := by
  cases hc : c.toB
  · rw [hc] at h; simp at h
  · rw [hc] at h; exact ⟨rfl, by simpa using h⟩
theorem adT_true {n : Nat} : ∀ {m j : Nat}, ((adT n m j).den E).toB = true → (∀ i, j ≤ i → i < j + m → (0 ≤ IntKind.i64.wrap (E.v i).toI ∧ IntKind.i64.wrap (E.v i).toI ≤ 1000) ∧ (n ≤ i → (E.v i).toI = 0)) ∧ 0 < ((totW n 6).den E).toI
  | 0, j, h => ⟨fun i h1 h2 => absurd h2 (by omega), of_decide_eq_true h⟩
  | m + 1, j, h => by
    obtain ⟨h1, h⟩ := ite_b (c := (Tm.op .lei (.il 0) (W64 j)).den E) h
    obtain ⟨h2, h⟩ := ite_b (c := (Tm.op .lei (W64 j) (.il 1000)).den E) h
    have k1 : 0 ≤ IntKind.i64.wrap (E.v j).toI := of_decide_eq_true h1
    have k2 : IntKind.i64.wrap (E.v j).toI ≤ 1000 := of_decide_eq_true h2
    have key : (n ≤ j → (E.v j).toI = 0) ∧ ((adT n m (j + 1)).den E).toB = true := by
      cases hb : Nat.blt j n with
      | true =>
        rw [hb] at h
        exact ⟨fun h => absurd h (by have : j < n := by simpa [Nat.blt_eq] using hb
                                     omega), h⟩
      | false =>
        rw [hb] at h
        obtain ⟨h3, h⟩ := ite_b (c := (Tm.op .eqi (.var j) (.il 0)).den E) h
        exact ⟨fun _ => of_decide_eq_true h3, h⟩
    obtain ⟨g1, g2⟩ := adT_true (m := m) (j := j + 1) key.2
    refine ⟨fun i hi1 hi2 => ?_, g2⟩
    rcases Nat.lt_or_ge j i with hlt | hge
    · exact g1 i hlt (by omega)
    · have : i = j := by omega
      subst this
      exact ⟨⟨k1, k2⟩, key.1⟩
theorem adT_of {n : Nat} : ∀ {m j : Nat}, (∀ i, j ≤ i → i < j + m → (0 ≤ IntKind.i64.wrap (E.v i).toI ∧ IntKind.i64.wrap (E.v i).toI ≤ 1000) ∧ (n ≤ i → (E.v i).toI = 0)) → 0 < ((totW n 6).den E).toI → ((adT n m j).den E).toB = true
  | 0, j, _, h => decide_eq_true h
  | m + 1, j, h, h0 => by
    obtain ⟨⟨k1, k2⟩, k3⟩ := h j (Nat.le_refl _) (by omega)
    have ih := adT_of (m := m) (j := j + 1) (fun i h1 h2 => h i (by omega) (by omega)) h0
    have e1 : ((Tm.op .lei (.il 0) (W64 j)).den E).toB = true := decide_eq_true k1
    have e2 : ((Tm.op .lei (W64 j) (.il 1000)).den E).toB = true := decide_eq_true k2
    unfold adT
    rw [iteB, iteB, e1, e2]
    cases hb : Nat.blt j n with
    | true => exact ih
    | false =>
      simp only [cond_true]
      rw [iteB, show ((Tm.op .eqi (.var j) (.il 0)).den E).toB = true from decide_eq_true (k3 (by
        have : ¬ j < n := fun h => by rw [show Nat.blt j n = true by simpa [Nat.blt_eq] using h] at hb; cases hb
        omega))]
      exact ih
theorem totW_eq {n q : Nat} {E' : Env} (h : ∀ i, i < 6 → IntKind.i64.wrap (E.v i).toI = (E.v i).toI) (hq : ∀ i, i < 6 → (E'.v (q + i)).toI = (E.v i).toI) : ∀ m, m ≤ 6 → ((totW n m).den E).toI = ((totD q m).den E').toI
  | 0, _ => rfl
  | m + 1, hm => by
    have ih := totW_eq (n := n) (q := q) h hq m (by omega)
    show IntKind.i64.wrap (((totW n m).den E).toI + ((match Nat.blt m n with | true => W64 m | false => .var m).den E).toI) = IntKind.i64.wrap (((totD q m).den E').toI + (E'.v (q + m)).toI)
    rw [ih, hq m (by omega)]
    cases Nat.blt m n with
    | true =>
      show IntKind.i64.wrap (_ + IntKind.i64.wrap (E.v m).toI) = _
      rw [h m (by omega)]
    | false => rfl
theorem wkJ_ok {n q : Nat} (h : ∀ i, i < 6 → (0 ≤ (E.v (q + i)).toI ∧ (E.v (q + i)).toI ≤ 1200) ∧ (n ≤ i → (E.v (q + i)).toI = 0)) : ∀ m, m ≤ 6 → PcOk E (wkJ n q m)
  | 0, _ => fun p hp => by cases hp
  | m + 1, hm => by
    obtain ⟨⟨k1, k2⟩, k3⟩ := h m (by omega)
    refine pc_append (wkJ_ok h m (by omega)) (PcOk.cons (PcOk.cons ?_ (decide_eq_true k2)) (decide_eq_true k1))
    cases hb : Nat.blt m n with
    | true => exact fun p hp => by cases hp
    | false => exact PcOk.cons (fun p hp => by cases hp) (decide_eq_true (k3 (by
        have : ¬ m < n := fun h => by rw [show Nat.blt m n = true by simpa [Nat.blt_eq] using h] at hb; cases hb
        omega)))
/-- Valid drops, their cells being whole numbers of 64 bits. -/
def RowOk (n : Nat) (r : Nat → Sc) : Prop := ((adT n 6 0).den ⟨r, fun _ c => c⟩).toB = true ∧ ∀ j, j < 6 → r j = .i (IntKind.i64.wrap (r j).toI)
theorem ad_ua : ∀ n, 1 ≤ n → n ≤ 6 → ((adT n 6 0).under 6 && (adT n 6 0).appsLt 0) = true
  | 1, _, _ | 2, _, _ | 3, _, _ | 4, _, _ | 5, _, _ | 6, _, _ => by kernel_rfl
theorem adT_v {n : Nat} {E E' : Env} (h1 : 1 ≤ n) (h6 : n ≤ 6) (h : ∀ i, i < 6 → E.v i = E'.v i) : (adT n 6 0).den E = (adT n 6 0).den E' := by
  have k := ad_ua n h1 h6
  simp only [Bool.and_eq_true] at k
  rw [under_den (E := E) (E' := ⟨E'.v, E.fn⟩) h rfl k.1]
  exact apps_den (m := 0) (fun k hk => absurd hk (by omega)) k.2
end
/-! The names -/
def vlF (n : Nat) (c : Sc) : Sc := open Classical in .b (decide (∀ k : Nat, (k : Int) < (c.at_ 0).toI → RowOk n fun j => cellOf (c.at_ 1).list (.cons (.i k) (.cons (.i 6) (.cons (.i j) .nil)))))
open Classical in
theorem vlF_true {n : Nat} {c : Sc} : (vlF n c).toB = true ↔ ∀ k : Nat, (k : Int) < (c.at_ 0).toI → RowOk n fun j => cellOf (c.at_ 1).list (.cons (.i k) (.cons (.i 6) (.cons (.i j) .nil))) := by
  unfold vlF
  exact decide_eq_true_iff
def F1g : Nat → Sc → Sc := fun k c => if 921 ≤ k ∧ k ≤ 926 then vlF (k - 920) c else F1 k c
def FG : Nat → Sc → Sc := buildF F1g DsG
theorem ascG : defsAsc DsG 900 = true := by kernel_rfl
structure FokG (F : Nat → Sc → Sc) : Prop extends Fok4 F where
  gd : ∀ id D, (id, D) ∈ DsG → ∀ c, F id c = D.den ⟨fun i => c.at_ i, F⟩
  vl : ∀ n, 1 ≤ n → n ≤ 6 → ∀ c, F (920 + n) c = vlF n c
theorem dsG3 {x : Nat × Tm} (h : x ∈ Ds3) : x ∈ DsG := .tail _ (.tail _ (.tail _ (.tail _ (.tail _ (.tail _ (.tail _ (.tail _ (.tail _ (.tail _ (.tail _ (.tail _ (.tail _ (.tail _ (.tail _ (.tail _ (.tail _ (.tail _ (.tail _ (.tail _ (.tail _ (.tail _ (.tail _ (.tail _ (h))))))))))))))))))))))))
theorem dsG4 {x : Nat × Tm} (h : x ∈ Ds4) : x ∈ DsG := by
  rcases List.mem_cons.1 h with rfl | h
  · exact .tail _ (.tail _ (.tail _ (.tail _ (.tail _ (.tail _ (.tail _ (.tail _ (.tail _ (.tail _ (.tail _ (.tail _ (.head _))))))))))))
  rcases List.mem_cons.1 h with rfl | h
  · exact .tail _ (.tail _ (.tail _ (.tail _ (.tail _ (.tail _ (.tail _ (.tail _ (.tail _ (.tail _ (.tail _ (.tail _ (.tail _ (.head _)))))))))))))
  rcases List.mem_cons.1 h with rfl | h
  · exact .tail _ (.tail _ (.tail _ (.tail _ (.tail _ (.tail _ (.tail _ (.tail _ (.tail _ (.tail _ (.tail _ (.tail _ (.tail _ (.tail _ (.head _))))))))))))))
  rcases List.mem_cons.1 h with rfl | h
  · exact .tail _ (.tail _ (.tail _ (.tail _ (.tail _ (.tail _ (.tail _ (.tail _ (.tail _ (.tail _ (.tail _ (.tail _ (.tail _ (.tail _ (.tail _ (.head _)))))))))))))))
  rcases List.mem_cons.1 h with rfl | h
  · exact .tail _ (.tail _ (.tail _ (.tail _ (.tail _ (.tail _ (.tail _ (.tail _ (.tail _ (.tail _ (.tail _ (.tail _ (.tail _ (.tail _ (.tail _ (.tail _ (.head _))))))))))))))))
  rcases List.mem_cons.1 h with rfl | h
  · exact .tail _ (.tail _ (.tail _ (.tail _ (.tail _ (.tail _ (.tail _ (.tail _ (.tail _ (.tail _ (.tail _ (.tail _ (.tail _ (.tail _ (.tail _ (.tail _ (.tail _ (.head _)))))))))))))))))
  exact dsG3 h
theorem f1g {k : Nat} (h : ¬ (921 ≤ k ∧ k ≤ 926)) (c : Sc) : F1g k c = F1 k c := by unfold F1g; rw [if_neg h]
theorem baseG : ∀ n, 1 ≤ n → n ≤ 6 → (DsG.all fun x => !(Nat.beq x.1 (920 + n))) = true
  | 1, _, _ | 2, _, _ | 3, _, _ | 4, _, _ | 5, _, _ | 6, _, _ => by kernel_rfl
theorem FokG_FG : FokG FG where
  defs := fun _ _ h c => buildF_def ascG (dsG3 (.tail _ (.tail _ h))) c
  rows := fun c => by
    have h : FG 900 = F1g 900 := buildF_base (by kernel_rfl)
    rw [h, f1g (by decide)]; simp [F1]
  name := fun c => by
    have h : FG 0 = F1g 0 := buildF_base (by kernel_rfl)
    rw [h, f1g (by decide)]; simp [F1]
  size := fun c => by
    have h : FG 1 = F1g 1 := buildF_base (by kernel_rfl)
    rw [h, f1g (by decide)]; simp [F1]
  defs3 := fun _ _ h c => buildF_def ascG (dsG3 h) c
  defs4 := fun _ _ h c => buildF_def ascG (dsG4 h) c
  gd := fun _ _ h c => buildF_def ascG h c
  vl := fun n h1 h6 c => by
    have h : FG (920 + n) = F1g (920 + n) := buildF_base (baseG n h1 h6)
    rw [h]; unfold F1g; rw [if_pos (by omega), Nat.add_sub_cancel_left]
section
variable {E : Env}
theorem memG_ad {n : Nat} (h1 : 1 ≤ n) (h6 : n ≤ 6) : (60 + n, AD n) ∈ DsG := by
  match n, h1, h6 with
  | 1, _, _ => exact .tail _ (.tail _ (.tail _ (.tail _ (.tail _ (.tail _ (.tail _ (.tail _ (.tail _ (.tail _ (.tail _ (.tail _ (.tail _ (.tail _ (.tail _ (.tail _ (.tail _ (.tail _ (.tail _ (.tail _ (.tail _ (.tail _ (.tail _ (.head _)))))))))))))))))))))))
  | 2, _, _ => exact .tail _ (.tail _ (.tail _ (.tail _ (.tail _ (.tail _ (.tail _ (.tail _ (.tail _ (.tail _ (.tail _ (.tail _ (.tail _ (.tail _ (.tail _ (.tail _ (.tail _ (.tail _ (.tail _ (.tail _ (.tail _ (.tail _ (.head _))))))))))))))))))))))
  | 3, _, _ => exact .tail _ (.tail _ (.tail _ (.tail _ (.tail _ (.tail _ (.tail _ (.tail _ (.tail _ (.tail _ (.tail _ (.tail _ (.tail _ (.tail _ (.tail _ (.tail _ (.tail _ (.tail _ (.tail _ (.tail _ (.tail _ (.head _)))))))))))))))))))))
  | 4, _, _ => exact .tail _ (.tail _ (.tail _ (.tail _ (.tail _ (.tail _ (.tail _ (.tail _ (.tail _ (.tail _ (.tail _ (.tail _ (.tail _ (.tail _ (.tail _ (.tail _ (.tail _ (.tail _ (.tail _ (.tail _ (.head _))))))))))))))))))))
  | 5, _, _ => exact .tail _ (.tail _ (.tail _ (.tail _ (.tail _ (.tail _ (.tail _ (.tail _ (.tail _ (.tail _ (.tail _ (.tail _ (.tail _ (.tail _ (.tail _ (.tail _ (.tail _ (.tail _ (.tail _ (.head _)))))))))))))))))))
  | 6, _, _ => exact .tail _ (.tail _ (.tail _ (.tail _ (.tail _ (.tail _ (.tail _ (.tail _ (.tail _ (.tail _ (.tail _ (.tail _ (.tail _ (.tail _ (.tail _ (.tail _ (.tail _ (.tail _ (.head _))))))))))))))))))
theorem memG_cd {n : Nat} (h1 : 1 ≤ n) (h6 : n ≤ 6) : (250 + n, CD n) ∈ DsG := by
  match n, h1, h6 with
  | 1, _, _ => exact .tail _ (.tail _ (.tail _ (.tail _ (.tail _ (.tail _ (.tail _ (.tail _ (.tail _ (.tail _ (.tail _ (.head _)))))))))))
  | 2, _, _ => exact .tail _ (.tail _ (.tail _ (.tail _ (.tail _ (.tail _ (.tail _ (.tail _ (.tail _ (.tail _ (.head _))))))))))
  | 3, _, _ => exact .tail _ (.tail _ (.tail _ (.tail _ (.tail _ (.tail _ (.tail _ (.tail _ (.tail _ (.head _)))))))))
  | 4, _, _ => exact .tail _ (.tail _ (.tail _ (.tail _ (.tail _ (.tail _ (.tail _ (.tail _ (.head _))))))))
  | 5, _, _ => exact .tail _ (.tail _ (.tail _ (.tail _ (.tail _ (.tail _ (.tail _ (.head _)))))))
  | 6, _, _ => exact .tail _ (.tail _ (.tail _ (.tail _ (.tail _ (.tail _ (.head _))))))
theorem memG_od {n : Nat} (h1 : 1 ≤ n) (h6 : n ≤ 6) : (260 + n, OD n) ∈ DsG := by
  match n, h1, h6 with
  | 1, _, _ => exact .tail _ (.tail _ (.tail _ (.tail _ (.tail _ (.head _)))))
  | 2, _, _ => exact .tail _ (.tail _ (.tail _ (.tail _ (.head _))))
  | 3, _, _ => exact .tail _ (.tail _ (.tail _ (.head _)))
  | 4, _, _ => exact .tail _ (.tail _ (.head _))
  | 5, _, _ => exact .tail _ (.head _)
  | 6, _, _ => exact .head _
/-! What is known of drops that are valid, or rows of a list of such -/
def rgF (c : Tm) : Tm := .op .eqv c (.op (.wrap .i64) c .nil)
def rg1 (pc : PC) (c : Tm) : Bool := match Go.Sx.look pc (rgF c) with
  | some true => true
  | _ => match prove true 60 pc (.op .lei (.il (-4611686018427387904)) c) with
    | true => prove true 60 pc (.op .lei c (.il 4611686018427387904))
    | false => false
theorem rg1_ok {pc : PC} {c : Tm} (hp : PcOk E pc) (h : rg1 pc c = true) : IntKind.i64.wrap (c.den E).toI = (c.den E).toI := by
  unfold rg1 at h
  split at h
  · rename_i hl
    have := of_decide_eq_true (look_ok hp hl)
    have e : c.den E = .i (IntKind.i64.wrap (c.den E).toI) := this
    exact (congrArg Sc.toI e).symm
  · split at h
    · rename_i h1
      have k1 := of_decide_eq_true (prove_ok 60 hp h1)
      have k2 := of_decide_eq_true (prove_ok 60 hp h)
      exact wg64 k1 k2
    · cases h
def allRg (pc : PC) : List Tm → Bool
  | [] => true
  | c :: r => match rg1 pc c with | true => allRg pc r | false => false
theorem allRg_ok {pc : PC} (hp : PcOk E pc) : ∀ {cs : List Tm}, allRg pc cs = true → ∀ (i : Nat) (c : Tm), cs[i]? = some c → IntKind.i64.wrap (c.den E).toI = (c.den E).toI
  | c :: r, h, i, d, hi => by
    simp only [allRg] at h
    split at h
    · rename_i h1
      cases i with
      | zero => simp at hi; subst hi; exact rg1_ok hp h1
      | succ i => exact allRg_ok hp h i d (by simpa using hi)
    · cases h
def adC (n : Nat) (cs : List Tm) : Tm := .nth 0 (.app (60 + n) (listT cs))
def drF (n : Nat) (cs : List Tm) (pc : PC) : PC := match Nat.beq cs.length 6, Go.Sx.look pc (adC n cs), allRg pc cs with
  | true, some true, true => substF cs (wkN n 0) ++ pc
  | _, _, _ => pc
theorem wkN_under : ∀ {n : Nat}, 1 ≤ n → n ≤ 6 → undersF 6 (wkN n 0) = true
  | 1, _, _ | 2, _, _ | 3, _, _ | 4, _, _ | 5, _, _ | 6, _, _ => by kernel_rfl
theorem wkN_ok {n : Nat} (h : ((adT n 6 0).den E).toB = true) (hr : ∀ i, i < 6 → IntKind.i64.wrap (E.v i).toI = (E.v i).toI) : PcOk E (wkN n 0) := by
  obtain ⟨k1, k2⟩ := adT_true (E := E) h
  have e : ∀ i, i < 6 → (E.v (0 + i)).toI = (E.v i).toI := fun i _ => by rw [Nat.zero_add]
  refine pc_append (wkJ_ok (q := 0) (fun i hi => ?_) 6 (Nat.le_refl _)) (PcOk.cons (fun p hp => by cases hp) ?_)
  · obtain ⟨⟨a, b⟩, c⟩ := k1 i (by omega) (by omega)
    rw [hr i hi] at a b
    rw [e i hi]
    exact ⟨⟨a, by omega⟩, c⟩
  · refine decide_eq_true ?_
    rw [← totW_eq (n := n) hr e 6 (Nat.le_refl _)]
    exact k2
theorem adC_true (hE : FokG E.fn) {n : Nat} (h1 : 1 ≤ n) (h6 : n ≤ 6) {cs : List Tm} (hl : cs.length = 6) (h : ((adC n cs).den E).toB = true) : ((adT n 6 0).den ⟨fun i => (cs[i]?.map (Tm.den E)).getD .nil, E.fn⟩).toB = true := by
  have e : (adC n cs).den E = (adT n 6 0).den ⟨fun i => ((listT cs).den E).at_ i, E.fn⟩ := congrArg (fun c => c.at_ 0) (hE.gd _ _ (memG_ad h1 h6) ((listT cs).den E))
  rw [e] at h
  rw [adT_v (E' := ⟨fun i => ((listT cs).den E).at_ i, E.fn⟩) h1 h6 fun i hi => by
    have ht : cs[i]? = some cs[i] := List.getElem?_eq_getElem (by omega)
    simp only [ht, Option.map_some, Option.getD_some]
    exact (listT_at ht).symm]
  exact h
theorem drF_ok (hE : FokG E.fn) {n : Nat} (h1 : 1 ≤ n) (h6 : n ≤ 6) {cs : List Tm} {pc : PC} (hp : PcOk E pc) : PcOk E (drF n cs pc) := by
  unfold drF
  split
  · rename_i hl ha hr
    have hl := Nat.eq_of_beq_eq_true hl
    have hE' : ∀ (i : Nat) (t : Tm), cs[i]? = some t → ((fun i => (cs[i]?.map (Tm.den E)).getD .nil) i : Sc) = t.den E := fun i t hi => by simp [hi]
    refine pc_append (substF_ok' (E' := ⟨fun i => (cs[i]?.map (Tm.den E)).getD .nil, E.fn⟩) hE' rfl (by rw [hl]; exact wkN_under h1 h6) (wkN_ok (adC_true hE h1 h6 hl (look_ok hp ha)) fun i hi => ?_)) hp
    have ht : cs[i]? = some cs[i] := List.getElem?_eq_getElem (by omega)
    have := allRg_ok hp hr i _ ht
    simp only [ht, Option.map_some, Option.getD_some]
    exact this
  · exact hp
/-- The list and the row that these cells are a row of. -/
def rowIs (T i : Tm) : List Tm → Nat → Bool
  | [], _ => true
  | c :: r, q => match c.beq (cellT T i 6 q) with | true => rowIs T i r (q + 1) | false => false
def rowZ : List Tm → Option (Tm × Tm)
  | .op o T (.cons i x) :: r => match rowIs T i (.op o T (.cons i x) :: r) 0 with | true => some (T, i) | false => none
  | _ => none
theorem rowIs_get {T i : Tm} : ∀ {cs : List Tm} {q k : Nat} {c : Tm}, rowIs T i cs q = true → cs[k]? = some c → c = cellT T i 6 (q + k)
  | d :: r, q, k, c, h, hk => by
    simp only [rowIs] at h
    split at h
    · rename_i h1
      cases k with
      | zero => simp at hk; subst hk; exact Tm.beq_eq h1
      | succ k =>
        have := rowIs_get h (k := k) (by simpa using hk)
        rwa [show q + 1 + k = q + (k + 1) by omega] at this
    · cases h
def findVL (n : Nat) (T : Tm) : PC → Option Tm
  | [] => none
  | (t, b) :: r => match t, b with
    | .app k (.cons L (.cons T' _)), true => match Nat.beq k (920 + n), T'.beq T with
      | true, true => some L
      | _, _ => findVL n T r
    | _, _ => findVL n T r
def rgFs : List Tm → PC
  | [] => []
  | c :: r => (rgF c, true) :: rgFs r
def rowF (n : Nat) (cs : List Tm) (pc : PC) : PC := match Nat.beq cs.length 6, rowZ cs with
  | true, some (T, i) => match findVL n T pc with
    | some L => match prove true 60 pc (.op .lei (.il 0) i), prove true 60 pc (.op .lti i L) with
      | true, true => (adC n cs, true) :: (rgFs cs ++ pc)
      | _, _ => pc
    | none => pc
  | _, _ => pc
theorem rgFs_ok : ∀ {cs : List Tm}, (∀ c, c ∈ cs → c.den E = .i (IntKind.i64.wrap (c.den E).toI)) → PcOk E (rgFs cs)
  | [], _ => fun p hp => by cases hp
  | c :: r, h => PcOk.cons (rgFs_ok fun d hd => h d (List.mem_cons_of_mem _ hd)) (decide_eq_true (h c (List.mem_cons_self ..)))
theorem findVL_ok (hE : FokG E.fn) {n : Nat} (h1 : 1 ≤ n) (h6 : n ≤ 6) {T L : Tm} : ∀ {pc : PC}, PcOk E pc → findVL n T pc = some L → ∀ k : Nat, (k : Int) < (L.den E).toI → RowOk n fun j => cellOf (T.den E).list (.cons (.i k) (.cons (.i 6) (.cons (.i j) .nil)))
  | (t, b) :: r, hp, h => by
    have hr : PcOk E r := fun p hm => hp p (List.mem_cons_of_mem _ hm)
    simp only [findVL] at h
    split at h
    · rename_i k L' T' x
      split at h
      · rename_i e1 e2
        cases h
        have e1 := Nat.eq_of_beq_eq_true e1
        have e2 := Tm.beq_eq e2
        subst e1 e2
        have h0 : (E.fn (920 + n) (Sc.cons (L.den E) (Sc.cons (T'.den E) (x.den E)))).toB = true := hp _ (List.mem_cons_self ..)
        rw [hE.vl n h1 h6] at h0
        exact vlF_true.1 h0
      · exact findVL_ok hE h1 h6 hr h
    · exact findVL_ok hE h1 h6 hr h
theorem rowF_ok (hE : FokG E.fn) {n : Nat} (h1 : 1 ≤ n) (h6 : n ≤ 6) {cs : List Tm} {pc : PC} (hp : PcOk E pc) : PcOk E (rowF n cs pc) := by
  unfold rowF
  split
  · rename_i T i hl hrow
    have hl := Nat.eq_of_beq_eq_true hl
    split
    · rename_i L hL
      split
      · rename_i q1 q2
        have k1 := of_decide_eq_true (prove_ok 60 hp q1)
        have k2 := of_decide_eq_true (prove_ok 60 hp q2)
        have hcs : ∀ (k : Nat) (c : Tm), cs[k]? = some c → c = cellT T i 6 k := by
          unfold rowZ at hrow
          split at hrow
          · split at hrow
            · rename_i hi
              simp only [Option.some.injEq, Prod.mk.injEq] at hrow
              obtain ⟨rfl, rfl⟩ := hrow
              intro k c hk
              have := rowIs_get hi hk
              rwa [Nat.zero_add] at this
            · cases hrow
          · cases hrow
        have hz : ((i.den E).toI.toNat : Int) = (i.den E).toI := Int.toNat_of_nonneg k1
        obtain ⟨r1, r2⟩ := findVL_ok hE h1 h6 hp hL (i.den E).toI.toNat (by rw [hz]; exact k2)
        have hden : ∀ (k : Nat) (c : Tm), cs[k]? = some c → c.den E = cellOf (T.den E).list (.cons (.i (i.den E).toI.toNat) (.cons (.i 6) (.cons (.i k) .nil))) := by
          intro k c hk
          rw [hcs k c hk]
          show cellOf (T.den E).list (.cons (i.den E) (.cons (.i 6) (.cons (.i k) .nil))) = _
          unfold cellOf
          congr 4
        refine PcOk.cons (pc_append (rgFs_ok fun c hc => ?_) hp) ?_
        · obtain ⟨k, hk, rfl⟩ := List.mem_iff_getElem.1 hc
          have hk' : cs[k]? = some cs[k] := List.getElem?_eq_getElem hk
          rw [hden k _ hk']
          exact r2 k (by omega)
        · have e : (adC n cs).den E = (adT n 6 0).den ⟨fun i => ((listT cs).den E).at_ i, E.fn⟩ := congrArg (fun c => c.at_ 0) (hE.gd _ _ (memG_ad h1 h6) ((listT cs).den E))
          rw [e]
          show ((adT n 6 0).den ⟨fun i => ((listT cs).den E).at_ i, E.fn⟩).toB = true
          rw [adT_v (E' := ⟨fun j => cellOf (T.den E).list (.cons (.i (i.den E).toI.toNat) (.cons (.i 6) (.cons (.i j) .nil))), fun _ c => c⟩) h1 h6 fun j hj => by
            have hk' : cs[j]? = some cs[j] := List.getElem?_eq_getElem (by omega)
            show ((listT cs).den E).at_ j = _
            rw [listT_at hk', hden j _ hk']]
          exact r1
      · exact hp
    · exact hp
  · exact hp
end
end Go.Proofs.YtfdpcmijifdfeaaGreat.Leaf
