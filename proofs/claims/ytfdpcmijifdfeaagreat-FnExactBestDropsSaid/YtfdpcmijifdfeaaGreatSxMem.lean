/- Symbolic values and memory, and what they say of the values and the memory of a run. No condition. -/
import Derived.Test.YtfdpcmijifdfeaaGreatSxTm
import Derived.Laws.AppendOwn
import Derived.Below
set_option linter.unusedVariables false
set_option linter.unusedSimpArgs false
noncomputable section
namespace Go.Sx
open Go Go.RowKit

/-- Where a block of symbolic memory lies: block, first cell, and the capacity of the one slice that owns it. -/
structure Bs where
  blk : Nat
  off : Nat
  cap : Nat
  /-- What lies in the cells, where only contracts look at them: of each cell its kind and what it stands for. -/
  val : List Sc := []
abbrev Pl := Nat → Option Bs

inductive SK where
  | bool | int (k : IntKind) | float (k : FloatKind) | str
  deriving Inhabited
def SK.n : SK → Nat | .bool => 0 | .str => 1 | .int k => 2 + ki k | .float k => 10 + kf k
theorem ki_lt (k : IntKind) : ki k < 8 := by cases k <;> decide
theorem SK.n_inj {a b : SK} (h : a.n = b.n) : a = b := by
  cases a <;> cases b <;> simp only [SK.n] at h <;> first
    | rfl
    | omega
    | (rename_i x y; have := ki_lt x; have := ki_lt y; rw [ki_inj (by omega : ki x = ki y)])
    | (rename_i x y; rw [kf_inj (by omega : kf x = kf y)])
    | (rename_i x y; have := ki_lt x; omega)
    | (rename_i x y; have := ki_lt y; omega)
    | (rename_i x; have := ki_lt x; omega)

inductive SV where
  | un
  | sc (k : SK) (t : Tm)
  | ptr (j off : Nat) | nilp
  | sl (j off len : Nat) | nils
  | gs (j len : Nat)
  | os (j : Nat) (n t : Tm)
  | og (j : Nat) (ks : List SK) (n t : Tm)
  | rp (j : Nat) (ks : List SK) (t i : Tm) (o : Nat)
  | fn (f : Fn) (first captured : List SV) | nilf
  | nili
  | agg (cs : List SV) | tup (vs : List SV)
  deriving Inhabited

theorem ofList_list (l : List Sc) : (Sc.ofList l).list = l := by
  induction l with
  | nil => rfl
  | cons h t ih => simp [Sc.ofList, Sc.list, ih]
/-- The kinds of a row's cells, as a term. -/
def ksT : List SK → Tm
  | [] => .nil
  | k :: r => .cons (.il k.n) (ksT r)
/-- A list of cells is n rows of cells of these kinds. -/
def rowsT (ks : List SK) (n t : Tm) : Tm := .app 900 (.cons (ksT ks) (.cons n (.cons t .nil)))
theorem ksT_den {E : Env} : ∀ ks : List SK, ((ksT ks).den E).list = ks.map fun k => Sc.i k.n
  | [] => rfl
  | k :: r => by simp only [ksT, Tm.den, Sc.list, ksT_den r, List.map_cons]
def kScs (ks : List SK) : List Sc := ks.map fun k => Sc.i k.n

def SK.rep (k : SK) (c : Sc) (v : Value) : Prop :=
  match k with
  | .bool => v = .bool c.toB
  | .int k => v = .int k c.toI
  | .float k => ∃ x, v = .float k x ∧ canon k x = c.toF
  | .str => v = .string ⟨c.toS.toArray⟩

mutual
def SV.rep (E : Env) (β : Pl) : SV → Value → Prop
  | .un, _ => True
  | .sc k t, v => k.rep (t.den E) v
  | .ptr j o, v => ∃ b, β j = some b ∧ v = .pointer (some ⟨b.blk, b.off + o, none⟩)
  | .nilp, v => v = .pointer none
  | .sl j o n, v => ∃ b c, β j = some b ∧ v = .slice (some ⟨b.blk, b.off + o, none⟩) n c ∧ n ≤ c
  | .nils, v => v = .slice none 0 0
  | .gs j n, v => ∃ b, β j = some b ∧ b.off = 0 ∧ v = .slice (some ⟨b.blk, 0, none⟩) n b.cap ∧ b.val = []
  | .os j n t, v => ∃ b l c, β j = some b ∧ v = .slice (some ⟨b.blk, b.off, none⟩) l c ∧ l ≤ c ∧ (l : Int) = (n.den E).toI ∧ b.val = (t.den E).list
  | .og j ks n t, v => ∃ (b : Bs) (l : Nat), β j = some b ∧ v = .slice (some ⟨b.blk, b.off, none⟩) l b.cap ∧ l ≤ b.cap ∧ l ≤ maxLen ∧ (l : Int) = (n.den E).toI ∧ b.val = (t.den E).list ∧ RowsOk (kScs ks) (l : Nat) b.val
  | .rp j ks t i o, v => ∃ (b : Bs) (k l : Nat), β j = some b ∧ (k : Int) = (i.den E).toI ∧ k < l ∧ v = .pointer (some ⟨b.blk, b.off + (k * ks.length + o), none⟩) ∧ b.val = (t.den E).list ∧ RowsOk (kScs ks) (l : Nat) b.val
  | .fn f a c, v => ∃ as cs, v = .func f as cs ∧ SV.reps E β a as.toList ∧ SV.reps E β c cs.toList
  | .nilf, v => v = .nilFunc
  | .nili, v => v = .nilIface
  | .agg cs, v => ∃ vs, v = .agg vs ∧ SV.reps E β cs vs.toList
  | .tup cs, v => ∃ vs, v = .tuple vs ∧ SV.reps E β cs vs.toList
def SV.reps (E : Env) (β : Pl) : List SV → List Value → Prop
  | [], vs => vs = []
  | s :: r, vs => ∃ v rest, vs = v :: rest ∧ SV.rep E β s v ∧ SV.reps E β r rest
end

section
variable {E : Env} {β β' : Pl}
@[simp] theorem reps_nil (vs : List Value) : SV.reps E β [] vs ↔ vs = [] := by simp [SV.reps]
@[simp] theorem reps_cons (s : SV) (r : List SV) (v : Value) (vs : List Value) : SV.reps E β (s :: r) (v :: vs) ↔ SV.rep E β s v ∧ SV.reps E β r vs := by
  constructor
  · rintro h; simp only [SV.reps] at h; obtain ⟨v', r', h1, h2, h3⟩ := h; cases h1; exact ⟨h2, h3⟩
  · rintro ⟨h1, h2⟩; simp only [SV.reps]; exact ⟨v, vs, rfl, h1, h2⟩
theorem reps_length : ∀ {ss : List SV} {vs : List Value}, SV.reps E β ss vs → vs.length = ss.length
  | [], vs, h => by simp at h; subst h; rfl
  | s :: r, vs, h => by
    simp only [SV.reps] at h
    obtain ⟨v, rest, rfl, _, h⟩ := h
    simp [reps_length h]
theorem reps_iff {ss : List SV} {vs : List Value} : SV.reps E β ss vs ↔ vs.length = ss.length ∧ ∀ (i : Nat) (s : SV), ss[i]? = some s → ∃ v : Value, vs[i]? = some v ∧ SV.rep E β s v := by
  induction ss generalizing vs with
  | nil =>
    simp only [reps_nil, List.length_nil]
    constructor
    · rintro rfl; exact ⟨rfl, fun i s h => by simp at h⟩
    · rintro ⟨h, _⟩; exact List.eq_nil_of_length_eq_zero h
  | cons s r ih =>
    cases vs with
    | nil => 
      constructor
      · intro h; simp only [SV.reps] at h; obtain ⟨_, _, h, _⟩ := h; cases h
      · rintro ⟨h, _⟩; simp at h
    | cons v vs =>
      rw [reps_cons, ih]
      constructor
      · rintro ⟨h1, h2, h3⟩
        refine ⟨by simp [h2], fun i t hi => ?_⟩
        cases i with
        | zero => simp at hi; subst hi; exact ⟨v, rfl, h1⟩
        | succ i => simpa using h3 i t (by simpa using hi)
      · rintro ⟨h1, h2⟩
        refine ⟨?_, by simpa using h1, fun i t hi => ?_⟩
        · obtain ⟨v', hv, h⟩ := h2 0 s rfl; simp at hv; subst hv; exact h
        · simpa using h2 (i + 1) t (by simpa using hi)
theorem reps_get {ss : List SV} {vs : List Value} (h : SV.reps E β ss vs) {i : Nat} {s : SV} (hi : ss[i]? = some s) : ∃ v, vs[i]? = some v ∧ SV.rep E β s v :=
  (reps_iff.1 h).2 i s hi

theorem reps_append {a b : List SV} {x y : List Value} (h : SV.reps E β a x) (k : SV.reps E β b y) : SV.reps E β (a ++ b) (x ++ y) := by
  induction a generalizing x with
  | nil => simp at h; subst h; exact k
  | cons s r ih =>
    simp only [SV.reps] at h
    obtain ⟨v, rest, rfl, h1, h2⟩ := h
    simp only [List.cons_append, reps_cons]
    exact ⟨h1, ih h2⟩
theorem reps_take {a : List SV} {x : List Value} (h : SV.reps E β a x) (n : Nat) : SV.reps E β (a.take n) (x.take n) := by
  induction a generalizing x n with
  | nil => simp at h; subst h; simp
  | cons s r ih =>
    simp only [SV.reps] at h
    obtain ⟨v, rest, rfl, h1, h2⟩ := h
    cases n with
    | zero => simp
    | succ n => simp only [List.take_succ_cons, reps_cons]; exact ⟨h1, ih h2 n⟩
theorem reps_drop {a : List SV} {x : List Value} (h : SV.reps E β a x) (n : Nat) : SV.reps E β (a.drop n) (x.drop n) := by
  induction a generalizing x n with
  | nil => simp at h; subst h; simp
  | cons s r ih =>
    simp only [SV.reps] at h
    obtain ⟨v, rest, rfl, h1, h2⟩ := h
    cases n with
    | zero => simp only [List.drop_zero, reps_cons]; exact ⟨h1, h2⟩
    | succ n => exact ih h2 n

def Pl.le (β β' : Pl) : Prop := ∀ j b, β j = some b → β' j = some b
theorem Pl.le_refl (β : Pl) : Pl.le β β := fun _ _ h => h
theorem Pl.le_trans {a b c : Pl} (h : Pl.le a b) (k : Pl.le b c) : Pl.le a c := fun j x hx => k j x (h j x hx)

mutual
theorem SV.rep_mono (h : Pl.le β β') : ∀ (s : SV) (v : Value), SV.rep E β s v → SV.rep E β' s v
  | .un, _, _ => by simp [SV.rep]
  | .sc k t, v, hr => by simpa [SV.rep] using hr
  | .ptr j o, v, hr => by simp only [SV.rep] at *; obtain ⟨b, hb, hv⟩ := hr; exact ⟨b, h j b hb, hv⟩
  | .nilp, v, hr => by simpa [SV.rep] using hr
  | .sl j o n, v, hr => by simp only [SV.rep] at *; obtain ⟨b, c, hb, hv⟩ := hr; exact ⟨b, c, h j b hb, hv⟩
  | .nils, v, hr => by simpa [SV.rep] using hr
  | .gs j n, v, hr => by simp only [SV.rep] at *; obtain ⟨b, hb, hv⟩ := hr; exact ⟨b, h j b hb, hv⟩
  | .os j n t, v, hr => by simp only [SV.rep] at *; obtain ⟨b, l, c, hb, hv⟩ := hr; exact ⟨b, l, c, h j b hb, hv⟩
  | .og j ks n t, v, hr => by simp only [SV.rep] at *; obtain ⟨b, l, hb, hv⟩ := hr; exact ⟨b, l, h j b hb, hv⟩
  | .rp j ks t i o, v, hr => by simp only [SV.rep] at *; obtain ⟨b, k, l, hb, hv⟩ := hr; exact ⟨b, k, l, h j b hb, hv⟩
  | .fn f a c, v, hr => by
    simp only [SV.rep] at *
    obtain ⟨as, cs, hv, h1, h2⟩ := hr
    exact ⟨as, cs, hv, SV.reps_mono h a _ h1, SV.reps_mono h c _ h2⟩
  | .nilf, v, hr => by simpa [SV.rep] using hr
  | .nili, v, hr => by simpa [SV.rep] using hr
  | .agg cs, v, hr => by simp only [SV.rep] at *; obtain ⟨vs, hv, h1⟩ := hr; exact ⟨vs, hv, SV.reps_mono h cs _ h1⟩
  | .tup cs, v, hr => by simp only [SV.rep] at *; obtain ⟨vs, hv, h1⟩ := hr; exact ⟨vs, hv, SV.reps_mono h cs _ h1⟩
theorem SV.reps_mono (h : Pl.le β β') : ∀ (ss : List SV) (vs : List Value), SV.reps E β ss vs → SV.reps E β' ss vs
  | [], vs, hr => by simpa using hr
  | s :: r, vs, hr => by
    simp only [SV.reps] at *
    obtain ⟨v, rest, hv, h1, h2⟩ := hr
    exact ⟨v, rest, hv, SV.rep_mono h s v h1, SV.reps_mono h r rest h2⟩
end
end

mutual
/-- A symbolic value that names no memory. -/
def SV.flat : SV → Bool
  | .un => true | .sc _ _ => true | .nilp => true | .nils => true | .nilf => true | .nili => true
  | .ptr _ _ => false | .sl _ _ _ => false | .gs _ _ => false | .os _ _ _ => false | .og _ _ _ _ => false | .rp _ _ _ _ _ => false
  | .fn _ a c => SV.flats a && SV.flats c
  | .agg cs => SV.flats cs
  | .tup cs => SV.flats cs
def SV.flats : List SV → Bool
  | [] => true
  | s :: r => SV.flat s && SV.flats r
end
mutual
theorem SV.rep_flat {E : Env} {β β' : Pl} : ∀ (s : SV) (v : Value), SV.flat s = true → SV.rep E β s v → SV.rep E β' s v
  | .un, _, _, _ => by simp [SV.rep]
  | .sc k t, v, _, hr => by simpa [SV.rep] using hr
  | .ptr j o, v, hf, hr => by simp [SV.flat] at hf
  | .nilp, v, _, hr => by simpa [SV.rep] using hr
  | .sl j o n, v, hf, hr => by simp [SV.flat] at hf
  | .nils, v, _, hr => by simpa [SV.rep] using hr
  | .gs j n, v, hf, hr => by simp [SV.flat] at hf
  | .os j n t, v, hf, hr => by simp [SV.flat] at hf
  | .og j ks n t, v, hf, hr => by simp [SV.flat] at hf
  | .rp j ks t i o, v, hf, hr => by simp [SV.flat] at hf
  | .fn f a c, v, hf, hr => by
    simp only [SV.rep, SV.flat, Bool.and_eq_true] at *
    obtain ⟨as, cs, hv, h1, h2⟩ := hr
    exact ⟨as, cs, hv, SV.reps_flat a _ hf.1 h1, SV.reps_flat c _ hf.2 h2⟩
  | .nilf, v, _, hr => by simpa [SV.rep] using hr
  | .nili, v, _, hr => by simpa [SV.rep] using hr
  | .agg cs, v, hf, hr => by simp only [SV.rep, SV.flat] at *; obtain ⟨vs, hv, h1⟩ := hr; exact ⟨vs, hv, SV.reps_flat cs _ hf h1⟩
  | .tup cs, v, hf, hr => by simp only [SV.rep, SV.flat] at *; obtain ⟨vs, hv, h1⟩ := hr; exact ⟨vs, hv, SV.reps_flat cs _ hf h1⟩
theorem SV.reps_flat {E : Env} {β β' : Pl} : ∀ (ss : List SV) (vs : List Value), SV.flats ss = true → SV.reps E β ss vs → SV.reps E β' ss vs
  | [], vs, _, hr => by simpa using hr
  | s :: r, vs, hf, hr => by
    simp only [SV.reps, SV.flats, Bool.and_eq_true] at *
    obtain ⟨v, rest, hv, h1, h2⟩ := hr
    exact ⟨v, rest, hv, SV.rep_flat s v hf.1 h1, SV.reps_flat r rest hf.2 h2⟩
end

/-- A block of symbolic memory: its first cells, and, where one slice that grows owns it, the element's type, its size and the slice's length. -/
structure SB where
  cs : List SV
  row : Option (Nat × Nat × Nat)
  deriving Inhabited

/-- The cells that only contracts look at. -/
def GenOk (b : Bs) (w : World) : Prop := ∀ (i : Nat) (x : Sc), b.val[i]? = some x → ∃ v : Value, w.cell? ⟨b.blk, b.off + i, none⟩ = some v ∧ v.oneCell' = true ∧ ∃ (k : SK) (c : Sc), x = .cons (.i k.n) c ∧ k.rep c v
structure SB.reads (E : Env) (β : Pl) (sb : SB) (b : Bs) (w : World) : Prop where
  lt : b.blk < w.heap.size
  cells : ∀ (i : Nat) (s : SV), sb.cs[i]? = some s → ∃ v : Value, w.cell? ⟨b.blk, b.off + i, none⟩ = some v ∧ v.oneCell' = true ∧ SV.rep E β s v
  gen : b.val = [] ∨ sb.cs = [] ∧ GenOk b w
  zc : ∀ e s, sb.row = some (e, s, 0) → b.val = [] → b.cap = 0
def SB.owns (sb : SB) (b : Bs) (w : World) : Prop :=
  b.off = 0 ∧ ∃ arr e, w.heap[b.blk]? = some (.cells arr e (0, 0)) ∧
    match sb.row with
    | none => True
    | some (e', size, n) => e = e' ∧ arr.size = b.cap * size ∧ n ≤ b.cap ∧ b.cap ≤ maxLen ∧ sb.cs.length = n * size

abbrev Mem := List (Nat × SB)
/-- Every block can be read. -/
def Reads (E : Env) (β : Pl) (mem : Mem) (w : World) : Prop :=
  ∀ j sb, (j, sb) ∈ mem → ∃ b, β j = some b ∧ SB.reads E β sb b w
/-- Every block is the call's own: it lies from B on, and no two lie in one place. -/
structure Owns (E : Env) (β : Pl) (B : Nat) (mem : Mem) (w : World) : Prop where
  ent : ∀ j sb, (j, sb) ∈ mem → ∃ b, β j = some b ∧ SB.reads E β sb b w ∧ B ≤ b.blk ∧ SB.owns sb b w
  apart : ∀ j sb j' sb' b b', (j, sb) ∈ mem → (j', sb') ∈ mem → j ≠ j' → β j = some b → β j' = some b' → b.blk ≠ b'.blk

def find (mem : Mem) (j : Nat) : Option SB :=
  List.rec (motive := fun _ => Option SB) none (fun p _ ih => match Nat.beq p.1 j with
    | true => some p.2
    | false => ih) mem
theorem find_cons (i : Nat) (sb : SB) (r : Mem) (j : Nat) : find ((i, sb) :: r) j = match Nat.beq i j with
    | true => some sb
    | false => find r j := rfl
theorem find_mem : ∀ {mem : Mem} {j : Nat} {sb : SB}, find mem j = some sb → (j, sb) ∈ mem
  | [], _, _, h => by cases h
  | (i, x) :: r, j, sb, h => by
    simp only [find_cons] at h
    split at h
    · rename_i he; cases h; rw [Nat.eq_of_beq_eq_true he]; exact List.mem_cons_self ..
    · exact List.mem_cons_of_mem _ (find_mem h)

theorem SB.reads_below {E : Env} {β β' : Pl} {sb : SB} {b : Bs} {w w' : World} (h : SB.reads E β sb b w) (hm : Pl.le β β') (hb : Below w.heap.size w w') : SB.reads E β' sb b w' := by
  refine ⟨Nat.lt_of_lt_of_le h.1 hb.size, fun i s hs => ?_, h.3.imp id fun ⟨h1, h2⟩ => ⟨h1, fun i x hc => ?_⟩, h.4⟩
  · obtain ⟨v, h1, h2, h3⟩ := h.2 i s hs
    exact ⟨v, (hb.cell (p := ⟨b.blk, b.off + i, none⟩) h.1).trans h1, h2, SV.rep_mono hm _ _ h3⟩
  · obtain ⟨v, h3, h4⟩ := h2 i x hc
    exact ⟨v, (hb.cell (p := ⟨b.blk, b.off + i, none⟩) h.1).trans h3, h4⟩
theorem SB.owns_below {sb : SB} {b : Bs} {w w' : World} (h : SB.owns sb b w) (hlt : b.blk < w.heap.size) (hb : Below w.heap.size w w') : SB.owns sb b w' := by
  obtain ⟨h0, arr, e, h1, h2⟩ := h
  exact ⟨h0, arr, e, (hb.block _ hlt).trans h1, h2⟩
theorem Reads.below {E : Env} {β β' : Pl} {mem : Mem} {w w' : World} (h : Reads E β mem w) (hm : Pl.le β β') (hb : Below w.heap.size w w') : Reads E β' mem w' := by
  intro j sb hj
  obtain ⟨b, h1, h2⟩ := h j sb hj
  exact ⟨b, hm j b h1, SB.reads_below h2 hm hb⟩
theorem Reads.sub {E : Env} {β : Pl} {mem mem' : Mem} {w : World} (h : Reads E β mem w) (hs : ∀ x, x ∈ mem' → x ∈ mem) : Reads E β mem' w :=
  fun j sb hj => h j sb (hs _ hj)
theorem Reads.append {E : Env} {β : Pl} {a b : Mem} {w : World} (h : Reads E β a w) (k : Reads E β b w) : Reads E β (a ++ b) w := fun j sb hj => by
  rcases List.mem_append.1 hj with hj | hj
  · exact h j sb hj
  · exact k j sb hj
theorem Owns.reads {E : Env} {β : Pl} {B : Nat} {mem : Mem} {w : World} (h : Owns E β B mem w) : Reads E β mem w := fun j sb hj => by
  obtain ⟨b, h1, h2, _⟩ := h.ent j sb hj
  exact ⟨b, h1, h2⟩
theorem Owns.below {E : Env} {β β' : Pl} {B : Nat} {mem : Mem} {w w' : World} (h : Owns E β B mem w) (hm : Pl.le β β') (hb : Below w.heap.size w w') : Owns E β' B mem w' := by
  refine ⟨fun j sb hj => ?_, fun j sb j' sb' b b' hj hj' hne hb1 hb2 => ?_⟩
  · obtain ⟨b, h1, h2, h3, h4⟩ := h.ent j sb hj
    exact ⟨b, hm j b h1, SB.reads_below h2 hm hb, h3, SB.owns_below h4 h2.1 hb⟩
  · obtain ⟨x, hx, _⟩ := h.ent j sb hj
    obtain ⟨y, hy, _⟩ := h.ent j' sb' hj'
    have e1 := hm j x hx
    have e2 := hm j' y hy
    rw [hb1] at e1; rw [hb2] at e2
    cases e1; cases e2
    exact h.apart j sb j' sb' _ _ hj hj' hne hx hy
theorem Owns.sub {E : Env} {β : Pl} {B : Nat} {mem mem' : Mem} {w : World} (h : Owns E β B mem w) (hs : ∀ x, x ∈ mem' → x ∈ mem) : Owns E β B mem' w :=
  ⟨fun j sb hj => h.ent j sb (hs _ hj), fun j sb j' sb' b b' hj hj' => h.apart j sb j' sb' b b' (hs _ hj) (hs _ hj')⟩
theorem Owns.nil (E : Env) (β : Pl) (B : Nat) (w : World) : Owns E β B [] w := ⟨fun _ _ h => (by cases h), fun _ _ _ _ _ _ h => (by cases h)⟩
theorem Owns.base {E : Env} {β : Pl} {B B' : Nat} {mem : Mem} {w : World} (h : Owns E β B mem w) (hB : B' ≤ B) : Owns E β B' mem w :=
  ⟨fun j sb hj => by obtain ⟨b, h1, h2, h3, h4⟩ := h.ent j sb hj; exact ⟨b, h1, h2, Nat.le_trans hB h3, h4⟩, h.apart⟩

/-- What an operation that writes to no old block does: new blocks, named from 'n' up to before 'n''. -/
structure Step (E : Env) (β β' : Pl) (w w' : World) (n n' : Nat) (nb : Mem) : Prop where
  below : Below w.heap.size w w'
  mono : Pl.le β β'
  dom : ∀ j, (j < n ∨ n' ≤ j) → β' j = β j
  le : n ≤ n'
  new : Owns E β' w.heap.size nb w'

theorem Step.same {E : Env} {β : Pl} {w w' : World} (n : Nat) (h : Below w.heap.size w w') : Step E β β w w' n n [] :=
  ⟨h, Pl.le_refl _, fun _ _ => rfl, Nat.le_refl _, Owns.nil _ _ _ _⟩
theorem Step.refl {E : Env} {β : Pl} {w : World} (n : Nat) : Step E β β w w n n [] := .same n (Below.refl _ _)
theorem Step.drew {E : Env} {β : Pl} {w : World} (n : Nat) : Step E β β w w.drew n n [] := .same n (Below.refl _ _).drew
/-- The new blocks are forgotten. -/
theorem Step.forget {E : Env} {β β' : Pl} {w w' : World} {n n' : Nat} {nb : Mem} (h : Step E β β' w w' n n' nb) : Step E β β w w' n n [] := .same n h.below

/-- More places are known: of names from n up to before n'. -/
structure Ext (β β' : Pl) (n n' : Nat) : Prop where
  mono : Pl.le β β'
  dom : ∀ j, (j < n ∨ n' ≤ j) → β' j = β j
  le : n ≤ n'
theorem Ext.refl (β : Pl) (n : Nat) : Ext β β n n := ⟨Pl.le_refl _, fun _ _ => rfl, Nat.le_refl _⟩
theorem Ext.trans {a b c : Pl} {n m k : Nat} (h : Ext a b n m) (g : Ext b c m k) : Ext a c n k :=
  ⟨Pl.le_trans h.mono g.mono, fun j hj => by have := h.le; have := g.le; rw [g.dom j (by omega), h.dom j (by omega)], Nat.le_trans h.le g.le⟩
theorem Ext.more {a b : Pl} {n m k : Nat} (h : Ext a b n m) (hk : m ≤ k) : Ext a b n k := ⟨h.mono, fun j hj => h.dom j (by omega), Nat.le_trans h.le hk⟩
theorem Step.ext {E : Env} {β β' : Pl} {w w' : World} {n n' : Nat} {nb : Mem} (h : Step E β β' w w' n n' nb) : Ext β β' n n' := ⟨h.mono, h.dom, h.le⟩

theorem Owns.step {E : Env} {β β' : Pl} {B n n' : Nat} {mem nb : Mem} {w w' : World} (h : Owns E β B mem w) (hs : Step E β β' w w' n n' nb) (hB : B ≤ w.heap.size) :
    Owns E β' B (nb ++ mem) w' := by
  have ho := h.below hs.mono hs.below
  have old : ∀ j sb b, (j, sb) ∈ mem → β' j = some b → b.blk < w.heap.size := by
    intro j sb b hj hb
    obtain ⟨x, hx, hr, _⟩ := h.ent j sb hj
    have := hs.mono j x hx
    rw [hb] at this; cases this
    exact hr.1
  have new : ∀ j sb b, (j, sb) ∈ nb → β' j = some b → w.heap.size ≤ b.blk := by
    intro j sb b hj hb
    obtain ⟨x, hx, _, ho, _⟩ := hs.new.ent j sb hj
    rw [hb] at hx; cases hx
    exact ho
  refine ⟨fun j sb hj => ?_, fun j sb j' sb' b b' hj hj' hne hb1 hb2 => ?_⟩
  · rcases List.mem_append.1 hj with hj | hj
    · obtain ⟨b, h1, h2, h3, h4⟩ := hs.new.ent j sb hj
      exact ⟨b, h1, h2, Nat.le_trans hB h3, h4⟩
    · exact ho.ent j sb hj
  · rcases List.mem_append.1 hj with hj | hj <;> rcases List.mem_append.1 hj' with hj' | hj'
    · exact hs.new.apart j sb j' sb' b b' hj hj' hne hb1 hb2
    · have h1 := new j sb b hj hb1
      have h2 := old j' sb' b' hj' hb2
      omega
    · have h1 := old j sb b hj hb1
      have h2 := new j' sb' b' hj' hb2
      omega
    · exact ho.apart j sb j' sb' b b' hj hj' hne hb1 hb2

end Go.Sx
