/-
  PROVED: lemmas of the claim; no condition beyond what each one states.
  PLAIN LAW. Labels that are lowered along edges, till no edge has two: they tell the pieces.
-/
import Derived.Test.YtohpjggnhnjgpaaPart3
set_option linter.unusedVariables false
set_option linter.unusedSimpArgs false

namespace Gar
section
variable {n : Nat} {adj : Nat → Nat → Prop} {P : Nat → Prop} {f : Nat → Option Nat}

structure LabOk (n : Nat) (adj : Nat → Nat → Prop) (P : Nat → Prop) (f : Nat → Option Nat) : Prop where
  n1 : ∀ v, v < n → (f v = none ↔ ¬ P v)
  n2 : ∀ v k, v < n → f v = some k → Conn adj P v k ∧ k ≤ v

def sumL (n : Nat) (f : Nat → Option Nat) : Nat := ((List.range n).map fun v => (f v).getD 0).sum

theorem sum_le {l : List Nat} {g h : Nat → Nat} (hle : ∀ x ∈ l, g x ≤ h x) : (l.map g).sum ≤ (l.map h).sum := by
  induction l with
  | nil => simp
  | cons a l ih =>
    have := hle a (by simp)
    have := ih fun x hx => hle x (by simp [hx])
    simp only [List.map_cons, List.sum_cons]; omega
theorem sum_lt {l : List Nat} {g h : Nat → Nat} (hle : ∀ x ∈ l, g x ≤ h x) {a : Nat} (ha : a ∈ l) (hlt : g a < h a) : (l.map g).sum < (l.map h).sum := by
  induction l with
  | nil => cases ha
  | cons b l ih =>
    have h1 := hle b (by simp)
    have h2 := sum_le (l := l) fun x hx => hle x (by simp [hx])
    simp only [List.map_cons, List.sum_cons]
    rcases List.mem_cons.1 ha with rfl | ha
    · omega
    · have := ih (fun x hx => hle x (by simp [hx])) ha
      omega

/-- Both ends get the lesser label. -/
def low2 (f : Nat → Option Nat) (a b k : Nat) : Nat → Option Nat := fun u => if u = b then some k else if u = a then some k else f u

theorem LabOk.step (h : LabOk n adj P f) (hs : ∀ u v, adj u v → adj v u) {a b x y : Nat} (ha : a < n) (hb : b < n) (hab : adj a b) (hx : f a = some x) (hy : f b = some y) : LabOk n adj P (low2 f a b (min x y)) := by
  obtain ⟨c1, l1⟩ := h.n2 a x ha hx
  obtain ⟨c2, l2⟩ := h.n2 b y hb hy
  have ca : Conn adj P a b := .tail (.refl _ c1.left) hab c2.left
  have cb : Conn adj P b a := .tail (.refl _ c2.left) (hs _ _ hab) c1.left
  have ka : Conn adj P a (min x y) := by
    rcases Nat.le_total x y with e | e
    · rw [Nat.min_eq_left e]; exact c1
    · rw [Nat.min_eq_right e]; exact ca.trans c2
  have kb : Conn adj P b (min x y) := cb.trans ka
  refine ⟨fun v hv => ?_, fun v k hv hk => ?_⟩
  · unfold low2
    by_cases e1 : v = b
    · subst e1; simp [c2.left]
    · by_cases e2 : v = a
      · subst e2; simp [c1.left]
      · simp only [e1, e2, if_false]; exact h.n1 v hv
  · unfold low2 at hk
    by_cases e1 : v = b
    · subst e1; simp only [if_true, Option.some.injEq] at hk; subst hk; exact ⟨kb, Nat.le_trans (Nat.min_le_right _ _) l2⟩
    · by_cases e2 : v = a
      · subst e2; simp only [e1, if_false, if_true, Option.some.injEq] at hk; subst hk; exact ⟨ka, Nat.le_trans (Nat.min_le_left _ _) l1⟩
      · simp only [e1, e2, if_false] at hk; exact h.n2 v k hv hk
theorem low2_sum {a b x y : Nat} (ha : a < n) (hb : b < n) (hx : f a = some x) (hy : f b = some y) (hne : x ≠ y) : sumL n (low2 f a b (min x y)) < sumL n f := by
  have hle : ∀ v ∈ List.range n, (low2 f a b (min x y) v).getD 0 ≤ (f v).getD 0 := by
    intro v _
    unfold low2
    by_cases e1 : v = b
    · subst e1; simp [hy]; omega
    · by_cases e2 : v = a
      · subst e2; simp [e1, hx]; omega
      · simp [e1, e2]
  rcases Nat.lt_or_ge x y with e | e
  · refine sum_lt hle (List.mem_range.2 hb) ?_
    simp [low2, hy]; omega
  · refine sum_lt hle (List.mem_range.2 ha) ?_
    by_cases e1 : a = b
    · subst e1; rw [hx] at hy; injection hy with hy; omega
    · simp [low2, e1, hx]; omega

/-- No edge has two labels. -/
def LabDone (es : List (Nat × Nat)) (f : Nat → Option Nat) : Prop := ∀ e ∈ es, f e.1 = none ∨ f e.2 = none ∨ f e.1 = f e.2

def labPiece (n : Nat) (f : Nat → Option Nat) (v : Nat) : List Nat := (List.range n).filter fun u => f u == some v
def labPieces (n : Nat) (f : Nat → Option Nat) : List (List Nat) := ((List.range n).filter fun v => f v == some v).map (labPiece n f)

theorem LabOk.pieces {es : List (Nat × Nat)} (h : LabOk n (adjOf es) P f) (hd : LabDone es f) (hP : ∀ u, P u → u < n) : Pieces n (adjOf es) P (labPieces n f) := by
  have hsym : ∀ u v, adjOf es u v → adjOf es v u := fun u v h => h.symm
  have hsome : ∀ u, P u → ∃ k, f u = some k := fun u hu => by
    cases e : f u with
    | none => exact absurd hu ((h.n1 u (hP u hu)).1 e)
    | some k => exact ⟨k, rfl⟩
  have hedge : ∀ u v, P u → P v → adjOf es u v → f u = f v := by
    intro u v hu hv ha
    obtain ⟨k, hk⟩ := hsome u hu
    obtain ⟨j, hj⟩ := hsome v hv
    rcases ha with ha | ha
    · rcases hd _ ha with e | e | e
      · simp only at e; rw [hk] at e; cases e
      · simp only at e; rw [hj] at e; cases e
      · exact e
    · rcases hd _ ha with e | e | e
      · simp only at e; rw [hj] at e; cases e
      · simp only at e; rw [hk] at e; cases e
      · exact e.symm
  have hconn : ∀ u v, Conn (adjOf es) P u v → f u = f v := by
    intro u v hc
    induction hc with
    | refl _ => rfl
    | tail h1 h2 h3 ih => rw [ih]; exact hedge _ _ h1.right h3 h2
  have hrep : ∀ u k, P u → f u = some k → f k = some k ∧ Conn (adjOf es) P u k ∧ k ≤ u := by
    intro u k hu hk
    obtain ⟨hc, hle⟩ := h.n2 u k (hP u hu) hk
    exact ⟨by rw [← hconn u k hc, hk], hc, hle⟩
  have hPf : ∀ u k, u < n → f u = some k → P u := fun u k hu hk => (h.n2 u k hu hk).1.left
  have hmem : ∀ l, l ∈ labPieces n f → ∃ v, v < n ∧ f v = some v ∧ l = labPiece n f v := by
    intro l hl
    simp only [labPieces, List.mem_map, List.mem_filter, List.mem_range, beq_iff_eq] at hl
    obtain ⟨v, ⟨h1, h2⟩, rfl⟩ := hl
    exact ⟨v, h1, h2, rfl⟩
  have hin : ∀ v u, f v = some v → v < n → (u ∈ labPiece n f v ↔ u < n ∧ f u = some v) := by
    intro v u _ _
    simp [labPiece]
  have hhead : ∀ v, v < n → f v = some v → (labPiece n f v).headD 0 = v := by
    intro v hv hf
    have hvm : v ∈ labPiece n f v := (hin v v hf hv).2 ⟨hv, hf⟩
    have hsort : (labPiece n f v).Pairwise (· < ·) := (List.pairwise_lt_range).filter _
    have hall : ∀ u ∈ labPiece n f v, v ≤ u := by
      intro u hu
      obtain ⟨h1, h2⟩ := (hin v u hf hv).1 hu
      exact (h.n2 u v h1 h2).2
    generalize labPiece n f v = l at hvm hsort hall
    cases l with
    | nil => cases hvm
    | cons a t =>
      rcases List.mem_cons.1 hvm with h | h
      · exact h.symm
      · have h1 := (List.pairwise_cons.1 hsort).1 v h
        have h2 := hall a (by simp)
        omega
  refine ⟨hP, fun l hl => ?_, fun l hl => ?_, fun l hl u hu => ?_, fun u hu => ?_, ?_⟩
  · obtain ⟨v, h1, h2, rfl⟩ := hmem l hl
    have : v ∈ labPiece n f v := (hin v v h2 h1).2 ⟨h1, h2⟩
    cases hl' : labPiece n f v with
    | nil => rw [hl'] at this; cases this
    | cons a t => exact ⟨a, t, rfl⟩
  · obtain ⟨v, _, _, rfl⟩ := hmem l hl
    exact (List.pairwise_lt_range).filter _
  · obtain ⟨v, h1, h2, rfl⟩ := hmem l hl
    obtain ⟨h3, h4⟩ := (hin v u h2 h1).1 hu
    have hpu := hPf u v h3 h4
    refine ⟨hpu, fun x => ?_⟩
    rw [hin v x h2 h1]
    constructor
    · rintro ⟨h5, h6⟩
      exact (hrep u v hpu h4).2.1.trans ((hrep x v (hPf x v h5 h6) h6).2.1.symm hsym)
    · intro hc
      exact ⟨hP _ hc.right, by rw [← hconn u x hc, h4]⟩
  · obtain ⟨k, hk⟩ := hsome u hu
    obtain ⟨h1, h2, h3⟩ := hrep u k hu hk
    have hkn := hP k h2.right
    refine ⟨labPiece n f k, ?_, (hin k u h1 hkn).2 ⟨hP u hu, hk⟩⟩
    simp only [labPieces, List.mem_map, List.mem_filter, List.mem_range, beq_iff_eq]
    exact ⟨k, ⟨hkn, h1⟩, rfl⟩
  · have : (labPieces n f).map (fun l => l.headD 0) = (List.range n).filter fun v => f v == some v := by
      simp only [labPieces, List.map_map]
      conv => rhs; rw [← List.map_id ((List.range n).filter _)]
      apply List.map_congr_left
      intro v hv
      simp only [List.mem_filter, List.mem_range, beq_iff_eq] at hv
      exact hhead v hv.1 hv.2
    rw [this]
    exact (List.pairwise_lt_range).filter _

/-- The labels at first. -/
def lab0 (out : List Nat) (v : Nat) : Option Nat := if v ∈ out then none else some v
theorem lab0_ok {out : List Nat} : LabOk n adj (fun v => v < n ∧ v ∉ out) (lab0 out) := by
  refine ⟨fun v hv => ?_, fun v k hv hk => ?_⟩
  · unfold lab0; by_cases e : v ∈ out <;> simp [e, hv]
  · unfold lab0 at hk
    by_cases e : v ∈ out
    · simp [e] at hk
    · simp [e] at hk; subst hk; exact ⟨.refl _ ⟨hv, e⟩, Nat.le_refl _⟩
end

/-- Two lists of the pieces of the same are one. -/
theorem Pieces.uniq {n : Nat} {adj : Nat → Nat → Prop} {P : Nat → Prop} {L K : List (List Nat)} (hL : Pieces n adj P L) (hK : Pieces n adj P K) : L = K := by
  have key : ∀ {L K : List (List Nat)}, Pieces n adj P L → Pieces n adj P K → ∀ l ∈ L, l ∈ K := by
    intro L K hL hK l hl
    obtain ⟨u, t, rfl⟩ := hL.ne l hl
    obtain ⟨hu, hm⟩ := hL.mem _ hl u (by simp)
    obtain ⟨k, hk, huk⟩ := hK.all u hu
    have he : ∀ x, x ∈ (u :: t) ↔ x ∈ k := fun x => by rw [hm x, (hK.mem k hk u huk).2 x]
    have : (u :: t) = k := by
      have h1 := hL.rises _ hl
      have h2 := hK.rises _ hk
      exact List.Perm.eq_of_pairwise (le := (· < ·)) (fun a b _ _ h k => by omega) h1 h2 ((List.perm_ext_iff_of_nodup (nodup_of_rises h1) (nodup_of_rises h2)).2 he)
    rw [this]; exact hk
  have hord : ∀ {L : List (List Nat)}, Pieces n adj P L → L.Pairwise (fun a b => a.headD 0 < b.headD 0) := fun h => List.pairwise_map.1 h.heads
  refine List.Perm.eq_of_pairwise (le := fun a b => a.headD 0 < b.headD 0) (fun a b _ _ h k => by omega) (hord hL) (hord hK) ((List.perm_ext_iff_of_nodup hL.nodup hK.nodup).2 fun l => ⟨key hL hK l, key hK hL l⟩)
end Gar
