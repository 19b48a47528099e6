/-
  PROVED: lemmas of the claim; no condition beyond what each one states.
  PLAIN LAW. Numbers in sets: who is first; the way up made shorter; two sets made one.
  PLAIN LAW. Trees that grow along a matching, with blossoms: what holds of them, kept when a tree grows and when a blossom closes; the way from an outer vertex to its root. No program in sight.
  PLAIN LAW. A blossom closes: what holds of the forest is kept.
  PLAIN LAW. The forest at its start; a tree grows: what holds of the forest is kept.
  PLAIN LAW. Counting: lists without repetitions held against each other; what hangs together; no set of vertices lacks more than a matching leaves.
  PLAIN LAW. Where a forest can grow no more: its parts show that the matching is largest; outer are just the vertices that some largest matching leaves out. A path turned makes a matching larger.
  PLAIN LAW. The neighbours of each vertex, as the edges tell them.
-/
set_option linter.unusedVariables false
set_option linter.unusedSimpArgs false

namespace Gar

inductive Rep (n : Nat) (up : Nat → Nat) : Nat → Nat → Nat → Prop
  | root (v : Nat) : v < n → up v = v → Rep n up 0 v v
  | step {k v r : Nat} : v < n → up v ≠ v → Rep n up k (up v) r → Rep n up (k + 1) v r

def UF (n : Nat) (up rep : Nat → Nat) : Prop := ∀ v, v < n → ∃ k, Rep n up k v (rep v)

variable {n : Nat} {up rep : Nat → Nat}

theorem Rep.lt {k v r : Nat} (h : Rep n up k v r) : v < n ∧ r < n ∧ up r = r := by
  induction h with
  | root v h1 h2 => exact ⟨h1, h1, h2⟩
  | step h1 _ _ ih => exact ⟨h1, ih.2⟩
theorem Rep.det {k v r : Nat} (h : Rep n up k v r) : ∀ {k' r'}, Rep n up k' v r' → k = k' ∧ r = r' := by
  induction h with
  | root v h1 h2 =>
    intro k' r' h
    cases h with
    | root => exact ⟨rfl, rfl⟩
    | step _ h4 _ => exact absurd h2 h4
  | step h1 h2 _ ih =>
    intro k' r' h
    cases h with
    | root _ _ h4 => exact absurd h4 h2
    | step _ _ h5 => obtain ⟨a, b⟩ := ih h5; exact ⟨by rw [a], b⟩
theorem UF.lt (h : UF n up rep) {v : Nat} (hv : v < n) : rep v < n ∧ up (rep v) = rep v := by obtain ⟨k, hk⟩ := h v hv; exact hk.lt.2
theorem UF.self (h : UF n up rep) {v : Nat} (hv : v < n) (e : up v = v) : rep v = v := by
  obtain ⟨k, hk⟩ := h v hv
  exact (hk.det (.root v hv e)).2
theorem UF.up_lt (h : UF n up rep) {v : Nat} (hv : v < n) : up v < n ∧ rep (up v) = rep v := by
  obtain ⟨k, hk⟩ := h v hv
  generalize hr : rep v = r at hk
  cases hk with
  | root _ _ h2 => rw [h2]; exact ⟨hv, hr⟩
  | step _ h2 h3 =>
    obtain ⟨k', hk'⟩ := h _ h3.lt.1
    exact ⟨h3.lt.1, (hk'.det h3).2⟩
theorem UF.idem (h : UF n up rep) {v : Nat} (hv : v < n) : rep (rep v) = rep v := by obtain ⟨a, b⟩ := h.lt hv; exact h.self a b

/-- The way up, made shorter by a step. -/
theorem UF.halve (h : UF n up rep) {v : Nat} (hv : v < n) (hne : up v ≠ v) : UF n (fun u => if u = v then up (up v) else up u) rep ∧
    ∀ k, Rep n up k v (rep v) → ∃ k', k' < k ∧ Rep n (fun u => if u = v then up (up v) else up u) k' (up (up v)) (rep v) := by
  have key : ∀ k u r, Rep n up k u r → ∃ k', k' ≤ k ∧ Rep n (fun u => if u = v then up (up v) else up u) k' u r := by
    intro k
    induction k using Nat.strongRecOn with
    | _ k ih =>
      intro u r hr
      cases hr with
      | root _ h1 h2 => exact ⟨0, by omega, .root u h1 (by by_cases e : u = v <;> simp [e, h2]; subst e; exact absurd h2 hne)⟩
      | @step k _ _ h1 h2 h3 =>
        by_cases e : u = v
        · subst e
          cases h3 with
          | root _ h4 h5 =>
            obtain ⟨k', a, b⟩ := ih 0 (by omega) _ _ (.root _ h4 h5)
            refine ⟨k' + 1, by omega, .step h1 (by simp only [if_true]; rw [h5]; exact hne) (by simp only [if_true]; rw [h5]; rw [h5] at b; exact b)⟩
          | @step k2 _ _ h4 h5 h6 =>
            obtain ⟨k', a, b⟩ := ih k2 (by omega) _ _ h6
            refine ⟨k' + 1, by omega, .step h1 ?_ (by simpa using b)⟩
            simp only [if_true]
            intro e
            have h7 : Rep n up (k2 + 1 + 1) u r := .step h1 h2 (.step h4 h5 h6)
            rw [e] at h6
            have := (h6.det h7).1; omega
        · obtain ⟨k', a, b⟩ := ih k (by omega) _ _ h3
          exact ⟨k' + 1, by omega, .step h1 (by simp [e, h2]) (by simpa [e] using b)⟩
  refine ⟨fun u hu => ?_, fun k hk => ?_⟩
  · obtain ⟨k, hk⟩ := h u hu
    obtain ⟨k', _, b⟩ := key k u _ hk
    exact ⟨k', b⟩
  · generalize hr : rep v = r at hk
    cases hk with
    | root _ _ h2 => exact absurd h2 hne
    | @step k _ _ _ h2 h3 =>
      have h3' : ∃ j, j ≤ k ∧ Rep n up j (up (up v)) r := by
        have : ∀ j u r, Rep n up j u r → ∃ i, i ≤ j ∧ Rep n up i (up u) r := by
          intro j u r h
          cases h with
          | root _ h4 h5 => exact ⟨0, by omega, by rw [h5]; exact .root u h4 h5⟩
          | step _ _ h6 => exact ⟨_, by omega, h6⟩
        exact this _ _ _ h3
      obtain ⟨j, hj, h4⟩ := h3'
      obtain ⟨k', a, b⟩ := key _ _ _ h4
      exact ⟨k', by omega, b⟩

/-- Two sets made one: the first of the one goes below the first of the other. -/
theorem UF.unite (h : UF n up rep) {x y : Nat} (hx : x < n) (hy : y < n) (ux : up x = x) (uy : up y = y) :
    UF n (fun u => if u = x then y else up u) (fun u => if rep u = x then y else rep u) := by
  have rx := h.self hx ux
  have ry := h.self hy uy
  have ryy : Rep n (fun u => if u = x then y else up u) 0 y y := .root y hy (by by_cases e : y = x <;> simp [e, uy])
  have key : ∀ k u r, Rep n up k u r → ∃ k', Rep n (fun u => if u = x then y else up u) k' u (if r = x then y else r) := by
    intro k u r hr
    induction hr with
    | root v h1 h2 =>
      by_cases e : v = x
      · simp only [e, if_true]
        by_cases e2 : x = y
        · rw [e2]; rw [e2] at ryy; exact ⟨0, ryy⟩
        · exact ⟨1, .step hx (by simp; exact Ne.symm e2) (by simpa using ryy)⟩
      · simp only [e, if_false]; exact ⟨0, .root v h1 (by simp [e, h2])⟩
    | step h1 h2 h3 ih =>
      rename_i k v r
      obtain ⟨k', hk'⟩ := ih
      have e : v ≠ x := fun e => h2 (by rw [e]; exact ux)
      exact ⟨k' + 1, .step h1 (by simp [e, h2]) (by simpa [e] using hk')⟩
  intro u hu
  obtain ⟨k, hk⟩ := h u hu
  exact key k u _ hk

end Gar

namespace Gar

/-- A matching of a graph on the numbers below n. -/
structure Mat (n : Nat) (adj : Nat → Nat → Prop) (mate : Nat → Option Nat) : Prop where
  lt : ∀ v w, mate v = some w → v < n ∧ w < n
  sym : ∀ v w, mate v = some w → mate w = some v
  adj : ∀ v w, mate v = some w → adj v w

structure Gr (n : Nat) (adj : Nat → Nat → Prop) : Prop where
  lt : ∀ v w, adj v w → v < n ∧ w < n
  sym : ∀ v w, adj v w → adj w v
  irr : ∀ v, ¬ adj v v

/-- What a forest knows. -/
structure St where
  label : Nat → Nat
  outer : Nat → Bool
  pred : Nat → Nat
  root : Nat → Option Nat
  bridge : Nat → Nat × Nat
  B : Nat → Nat

/-- A path from an outer vertex up: an edge of the matching, one that is none, and so on. -/
inductive Alt (adj : Nat → Nat → Prop) (mate : Nat → Option Nat) : List Nat → Prop
  | one (v : Nat) : Alt adj mate [v]
  | cons {v m u : Nat} {l : List Nat} : mate v = some m → adj m u → Alt adj mate (u :: l) → Alt adj mate (v :: m :: u :: l)

/-- What the program's way is. -/
inductive Way (mate : Nat → Option Nat) (S : St) : Nat → Nat → List Nat → Prop
  | here (v : Nat) : Way mate S v v [v]
  | even {v to m : Nat} {l : List Nat} : v ≠ to → S.label v = 1 → mate v = some m → Way mate S (S.pred m) to l → Way mate S v to (v :: m :: l)
  | odd {v to x : Nat} {l0 l1 : List Nat} : v ≠ to → S.label v ≠ 1 → S.outer v = true → mate v = some x →
      Way mate S (S.bridge v).1 x l0 → Way mate S (S.bridge v).2 to l1 → Way mate S v to (v :: (l0.reverse ++ l1))

theorem Way.mono {mate : Nat → Option Nat} {S S' : St} (hl : ∀ v, S.label v = 1 → S'.label v = 1)
    (hp : ∀ v m, S.label v = 1 → mate v = some m → S'.pred m = S.pred m)
    (ho : ∀ v, S.outer v = true → S.label v ≠ 1 → S'.label v ≠ 1 ∧ S'.outer v = true ∧ S'.bridge v = S.bridge v)
    {v to : Nat} {l : List Nat} (h : Way mate S v to l) : Way mate S' v to l := by
  induction h with
  | here v => exact .here v
  | even h1 h2 h3 _ ih => exact .even h1 (hl _ h2) h3 (by rw [hp _ _ h2 h3]; exact ih)
  | odd h1 h2 h3 h4 _ _ ih1 ih2 =>
    obtain ⟨a, b, c⟩ := ho _ h3 h2
    exact .odd h1 a b h4 (by rw [c]; exact ih1) (by rw [c]; exact ih2)

theorem Way.last {mate : Nat → Option Nat} {S : St} {v to : Nat} {l : List Nat} (h : Way mate S v to l) : to ∈ l := by
  induction h with
  | here v => simp
  | even _ _ _ _ ih => simp [ih]
  | odd _ _ _ _ _ _ _ ih => simp [ih]

/-- The first part of a way. -/
inductive Pre (mate : Nat → Option Nat) (S : St) : Nat → Nat → List Nat → Prop
  | nil (b : Nat) : Pre mate S b b []
  | even {v b m : Nat} {q : List Nat} : S.label v = 1 → mate v = some m → Pre mate S (S.pred m) b q → Pre mate S v b (v :: m :: q)
  | odd {v b x : Nat} {l0 q : List Nat} : S.label v ≠ 1 → S.outer v = true → mate v = some x →
      Way mate S (S.bridge v).1 x l0 → Pre mate S (S.bridge v).2 b q → Pre mate S v b (v :: (l0.reverse ++ q))

theorem Pre.mono {mate : Nat → Option Nat} {S S' : St} (hl : ∀ v, S.label v = 1 → S'.label v = 1)
    (hp : ∀ v m, S.label v = 1 → mate v = some m → S'.pred m = S.pred m)
    (ho : ∀ v, S.outer v = true → S.label v ≠ 1 → S'.label v ≠ 1 ∧ S'.outer v = true ∧ S'.bridge v = S.bridge v)
    {v b : Nat} {l : List Nat} (h : Pre mate S v b l) : Pre mate S' v b l := by
  induction h with
  | nil v => exact .nil v
  | even h2 h3 _ ih => exact .even (hl _ h2) h3 (by rw [hp _ _ h2 h3]; exact ih)
  | odd h2 h3 h4 h5 _ ih2 =>
    obtain ⟨a, b, c⟩ := ho _ h3 h2
    exact .odd a b h4 (by rw [c]; exact h5.mono hl hp ho) (by rw [c]; exact ih2)

theorem Pre.append {mate : Nat → Option Nat} {S : St} {v b c : Nat} {q T : List Nat} (h : Pre mate S v b q) (h2 : Pre mate S b c T) : Pre mate S v c (q ++ T) := by
  induction h with
  | nil v => exact h2
  | even h3 h4 _ ih => exact .even h3 h4 (ih h2)
  | odd h3 h4 h5 h6 _ ih => simp only [List.cons_append, List.append_assoc]; exact .odd h3 h4 h5 h6 (ih h2)

theorem Pre.way {mate : Nat → Option Nat} {S : St} {v b : Nat} {q : List Nat} (h : Pre mate S v b q) {to : Nat} {l : List Nat} (h2 : Way mate S b to l) (hto : to ∉ q) : Way mate S v to (q ++ l) := by
  induction h with
  | nil v => exact h2
  | even h3 h4 _ ih =>
    simp only [List.mem_cons, not_or] at hto
    exact .even (Ne.symm hto.1) h3 h4 (ih h2 hto.2.2)
  | odd h3 h4 h5 h6 _ ih =>
    simp only [List.mem_cons, List.mem_append, not_or] at hto
    simp only [List.cons_append, List.append_assoc]
    exact .odd (Ne.symm hto.1) h3 h4 h5 h6 (ih h2 hto.2.2)

/-- A way within a blossom, down to its base: how far it leads, and what is on it (the base is not). -/
structure Seg (adj : Nat → Nat → Prop) (mate : Nat → Option Nat) (S : St) (v b : Nat) (q : List Nat) : Prop where
  pre : Pre mate S v b q
  nodup : q.Nodup
  alt : Alt adj mate (q ++ [b])
  head : (q ++ [b]).head? = some v
  notB : b ∉ q

structure InvO (n : Nat) (adj : Nat → Nat → Prop) (mate : Nat → Option Nat) (S : St) (ord : Nat → Nat) : Prop where
  i1 : ∀ v, v < n → S.label v ≤ 2
  i2 : ∀ v, v < n → S.outer v = true → S.label v ≠ 0
  i2' : ∀ v, v < n → S.label v = 1 → S.outer v = true
  i3 : ∀ v, v < n → (S.label v = 0 ↔ S.root v = none)
  i4 : ∀ v, v < n → mate v = none → S.label v = 1 ∧ S.root v = some v
  i5 : ∀ v, v < n → S.label v = 2 → ∃ x, mate v = some x ∧ S.label x = 1 ∧ S.root x = S.root v ∧ S.pred v < n ∧ S.outer (S.pred v) = true ∧
        S.root (S.pred v) = S.root v ∧ adj (S.pred v) v
  i6 : ∀ x m, x < n → S.label x = 1 → mate x = some m → S.label m = 2
  i7 : ∀ v, v < n → S.B v < n ∧ S.B (S.B v) = S.B v
  i8 : ∀ v, v < n → S.outer v = false → S.B v = v ∧ ∀ u, u < n → S.B u = v → u = v
  i9 : ∀ v, v < n → S.outer v = true → S.label (S.B v) = 1 ∧ S.root (S.B v) = S.root v
  i10 : ∀ m x, m < n → S.label m = 2 → mate m = some x → (S.outer m = true → S.B m = S.B x ∧ S.B x ≠ x) ∧ (S.outer m = false → S.B x = x)
  i11 : ∀ m x, m < n → S.label m = 2 → mate m = some x → ord (S.pred m) < ord m ∧ ord m < ord x
  i11' : ∀ v, v < n → S.outer v = true → ord (S.B v) ≤ ord v
  i12 : ∀ v, v < n → S.outer v = true → ∃ q, Seg adj mate S v (S.B v) q ∧ ∀ t ∈ q, t < n ∧ S.outer t = true ∧ S.B t = S.B v
  i13 : ∀ v r, v < n → S.root v = some r → r < n ∧ mate r = none

def Inv (n : Nat) (adj : Nat → Nat → Prop) (mate : Nat → Option Nat) (S : St) : Prop := ∃ ord, InvO n adj mate S ord

theorem Alt.head_cons {adj : Nat → Nat → Prop} {mate : Nat → Option Nat} {l : List Nat} (h : Alt adj mate l) : ∃ v t, l = v :: t := by
  cases h <;> exact ⟨_, _, rfl⟩

theorem Alt.append {adj : Nat → Nat → Prop} {mate : Nat → Option Nat} {l : List Nat} {b : Nat} {r : List Nat} (h : Alt adj mate (l ++ [b])) (h2 : Alt adj mate (b :: r)) :
    Alt adj mate (l ++ b :: r) := by
  generalize hk : l ++ [b] = k at h
  induction h generalizing l with
  | one v =>
    cases l with
    | nil => simp_all
    | cons a t => simp at hk
  | @cons v m u l' h1 h3 h4 ih =>
    cases l with
    | nil => simp at hk
    | cons a t =>
      cases t with
      | nil => simp at hk
      | cons a2 t2 =>
        simp only [List.cons_append, List.cons.injEq] at hk
        obtain ⟨rfl, rfl, hk⟩ := hk
        have := ih hk
        simp only [List.cons_append]
        cases t2 with
        | nil => simp at hk; obtain ⟨rfl, _⟩ := hk; exact .cons h1 h3 (by simpa using this)
        | cons a3 t3 =>
          simp only [List.cons_append, List.cons.injEq] at hk
          obtain ⟨rfl, _⟩ := hk
          exact .cons h1 h3 (by simpa using this)

/-- A path turned round behind an edge of the matching. -/
theorem Alt.turn {n : Nat} {adj : Nat → Nat → Prop} {mate : Nat → Option Nat} (G : Gr n adj) (M : Mat n adj mate) {l0 : List Nat} {c m w : Nat} {l1 : List Nat}
    (h0 : Alt adj mate (l0 ++ [c])) (hm : mate m = some c) (v : Nat) (hv : (l0 ++ [c]).head? = some v) (hvw : adj v w) (h1 : Alt adj mate (w :: l1)) :
    Alt adj mate (m :: ((l0 ++ [c]).reverse ++ w :: l1)) := by
  generalize hk : l0 ++ [c] = k at h0 hv
  have : ∀ k, Alt adj mate k → ∀ v m w l1, k.head? = some v → (∀ c, k.getLast? = some c → mate m = some c) → adj v w → Alt adj mate (w :: l1) → Alt adj mate (m :: (k.reverse ++ w :: l1)) := by
    intro k hk
    induction hk with
    | one x =>
      intro v m w l1 hv hm hvw h1
      simp at hv; subst hv
      exact .cons (hm x (by simp)) hvw h1
    | @cons x y u l hx hy hl ih =>
      intro v m w l1 hv hm hvw h1
      simp at hv; subst hv
      have hyx : mate y = some x := M.sym _ _ hx
      have := ih u m y (x :: w :: l1) (by simp) (by intro c hc; apply hm; simpa using hc) (G.sym _ _ hy) (.cons hyx hvw h1)
      simpa using this
  refine this k h0 v m w l1 hv ?_ hvw h1
  intro c' hc'
  subst hk
  simp at hc'; subst hc'; exact hm

section
variable {n : Nat} {adj : Nat → Nat → Prop} {mate : Nat → Option Nat} {S : St} {ord : Nat → Nat}

/-- From base to base: those that are passed, the last one left out. -/
inductive Up (mate : Nat → Option Nat) (S : St) : Nat → List Nat → Nat → Prop
  | nil (a : Nat) : Up mate S a [] a
  | cons {a m b : Nat} {xs : List Nat} : mate a = some m → Up mate S (S.B (S.pred m)) xs b → Up mate S a (a :: xs) b

theorem Up.append {a b c : Nat} {xs ys : List Nat} (h : Up mate S a xs b) (h2 : Up mate S b ys c) : Up mate S a (xs ++ ys) c := by
  induction h with
  | nil a => exact h2
  | cons h1 _ ih => exact .cons h1 (ih h2)

theorem Up.split {a c x : Nat} {xs1 xs2 : List Nat} (h : Up mate S a (xs1 ++ x :: xs2) c) : Up mate S a xs1 x ∧ Up mate S x (x :: xs2) c := by
  induction xs1 generalizing a with
  | nil => cases h with | cons h1 h2 => exact ⟨.nil _, .cons h1 h2⟩
  | cons y ys ih =>
    cases h with
    | cons h1 h2 => obtain ⟨i, j⟩ := ih h2; exact ⟨.cons h1 i, j⟩

/-- A base that is outer. -/
def IsBase (n : Nat) (S : St) (a : Nat) : Prop := a < n ∧ S.outer a = true ∧ S.B a = a

theorem IsBase.of (I : InvO n adj mate S ord) {v : Nat} (hv : v < n) (ho : S.outer v = true) : IsBase n S (S.B v) := by
  obtain ⟨h1, h2⟩ := I.i7 v hv
  refine ⟨h1, ?_, h2⟩
  exact I.i2' _ h1 (I.i9 v hv ho).1

theorem IsBase.label (I : InvO n adj mate S ord) {a : Nat} (h : IsBase n S a) : S.label a = 1 := by
  have := (I.i9 a h.1 h.2.1).1; rwa [h.2.2] at this

/-- What lies above a base. -/
theorem IsBase.above (M : Mat n adj mate) (I : InvO n adj mate S ord) {a m : Nat} (h : IsBase n S a) (hm : mate a = some m) :
    m < n ∧ S.label m = 2 ∧ S.outer m = false ∧ S.B m = m ∧ mate m = some a ∧ S.pred m < n ∧ S.outer (S.pred m) = true ∧ S.root (S.pred m) = S.root a ∧ S.root m = S.root a ∧ adj (S.pred m) m ∧
      IsBase n S (S.B (S.pred m)) ∧ ord (S.B (S.pred m)) < ord m ∧ ord m < ord a := by
  have hl := h.label I
  have hml := I.i6 a m h.1 hl hm
  have hmn := (M.lt _ _ hm).2
  have hma := M.sym _ _ hm
  obtain ⟨x, hx, hx1, hx2, hp, hpo, hpr, hpa⟩ := I.i5 m hmn hml
  rw [hma] at hx; injection hx with hx; subst hx
  have hmo : S.outer m = false := by
    cases hmo : S.outer m with
    | false => rfl
    | true => exact absurd h.2.2 ((I.i10 m a hmn hml hma).1 hmo).2
  obtain ⟨o1, o2⟩ := I.i11 m a hmn hml hma
  have o3 := I.i11' _ hp hpo
  exact ⟨hmn, hml, hmo, (I.i8 m hmn hmo).1, hma, hp, hpo, by rw [hpr, hx2], hx2.symm, hpa, IsBase.of I hp hpo, by omega, o2⟩

theorem Up.bases (M : Mat n adj mate) (I : InvO n adj mate S ord) {a b : Nat} {xs : List Nat} (h : Up mate S a xs b) (ha : IsBase n S a) :
    IsBase n S b ∧ S.root b = S.root a ∧ ord b ≤ ord a ∧ ∀ x ∈ xs, IsBase n S x ∧ S.root x = S.root a ∧ ord b < ord x ∧ ord x ≤ ord a ∧ ∃ m, mate x = some m := by
  induction h with
  | nil a => exact ⟨ha, rfl, Nat.le_refl _, by simp⟩
  | @cons a m b xs hm _ ih =>
    obtain ⟨h1, h2, h3, h4, h5, h6, h7, h8, h9, h10, h11, h12, h13⟩ := ha.above M I hm
    obtain ⟨i1, i2, i3, i4⟩ := ih h11
    have hr : S.root (S.B (S.pred m)) = S.root a := by rw [(I.i9 _ h6 h7).2, h8]
    refine ⟨i1, by rw [i2, hr], by omega, ?_⟩
    intro x hx
    rcases List.mem_cons.1 hx with rfl | hx
    · exact ⟨ha, rfl, by omega, Nat.le_refl _, m, hm⟩
    · obtain ⟨j1, j2, j3, j4, j5⟩ := i4 x hx
      exact ⟨j1, by rw [j2, hr], j3, by omega, j5⟩

theorem Up.nodup (M : Mat n adj mate) (I : InvO n adj mate S ord) {a b : Nat} {xs : List Nat} (h : Up mate S a xs b) (ha : IsBase n S a) : xs.Nodup ∧ b ∉ xs := by
  induction h with
  | nil a => simp
  | @cons a m b xs hm hu ih =>
    obtain ⟨h1, h2, h3, h4, h5, h6, h7, h8, h9, h10, h11, h12, h13⟩ := ha.above M I hm
    obtain ⟨i1, i2⟩ := ih h11
    obtain ⟨j1, j2, j3, j4⟩ := hu.bases M I h11
    refine ⟨List.nodup_cons.2 ⟨fun hx => ?_, i1⟩, fun hx => ?_⟩
    · have := (j4 a hx).2.2.2.1; omega
    · rcases List.mem_cons.1 hx with rfl | hx
      · omega
      · exact i2 hx

/-- The way from a base up to another one. -/
theorem Up.seg (G : Gr n adj) (M : Mat n adj mate) (I : InvO n adj mate S ord) {a b : Nat} {xs : List Nat} (h : Up mate S a xs b) (ha : IsBase n S a) :
    ∃ T, Seg adj mate S a b T ∧ ∀ t ∈ T, t < n ∧ (t = a ∨ ord (S.B t) < ord a) ∧ (S.B t ∈ xs ∨ S.B t = b ∨ ∃ x ∈ xs, mate x = some t) := by
  induction h with
  | nil a => exact ⟨[], ⟨.nil a, by simp, .one a, rfl, by simp⟩, by simp⟩
  | @cons a m b xs hm hu ih =>
    obtain ⟨h1, h2, h3, h4, h5, h6, h7, h8, h9, h10, h11, h12, h13⟩ := ha.above M I hm
    obtain ⟨T, sT, hT⟩ := ih h11
    obtain ⟨q, sq, hq⟩ := I.i12 _ h6 h7
    obtain ⟨j1, j2, j3, j4⟩ := hu.bases M I h11
    have hqT : ∀ t ∈ q, t ∉ T := by
      intro t ht htT
      have e := (hq t ht).2.2
      rcases (hT t htT).2.1 with h | h
      · subst h; exact sq.notB ht
      · rw [e] at h; omega
    have hmq : m ∉ q := fun hx => by have := (hq m hx).2.1; rw [h3] at this; cases this
    have hmT : m ∉ T := fun hx => by
      rcases (hT m hx).2.1 with h | h
      · have := h11.2.1; rw [← h, h3] at this; cases this
      · rw [h4] at h; omega
    have haq : a ∉ q := fun hx => by have := (hq a hx).2.2; rw [ha.2.2] at this; rw [← this] at h12; omega
    have haT : a ∉ T := fun hx => by
      rcases (hT a hx).2.1 with h | h
      · rw [← h] at h12; omega
      · rw [ha.2.2] at h; omega
    have ham : a ≠ m := fun e => by subst e; omega
    have hba : b ≠ a := fun e => by subst e; omega
    refine ⟨a :: m :: (q ++ T), ⟨?_, ?_, ?_, by simp, ?_⟩, ?_⟩
    · exact .even (ha.label I) hm (sq.pre.append sT.pre)
    · simp only [List.nodup_cons, List.mem_cons, List.mem_append, not_or, List.nodup_append]
      exact ⟨⟨ham, haq, haT⟩, ⟨hmq, hmT⟩, sq.nodup, sT.nodup, fun x hx y hy e => by subst e; exact hqT x hx hy⟩
    · have e1 : Alt adj mate (q ++ (T ++ [b])) := by
        have hh := sT.head
        obtain ⟨u, r, hu'⟩ := sT.alt.head_cons
        rw [hu'] at hh ⊢
        simp only [List.head?_cons, Option.some.injEq] at hh
        subst hh
        exact sq.alt.append (by rw [← hu']; exact sT.alt)
      have e2 : (q ++ (T ++ [b])).head? = some (S.pred m) := by
        have := sq.head
        cases q with
        | nil => simp only [List.nil_append] at this ⊢; rw [sT.head]; simpa using this
        | cons x y => simpa using this
      obtain ⟨u, r, hu'⟩ := e1.head_cons
      rw [hu'] at e2 e1
      simp only [List.head?_cons, Option.some.injEq] at e2
      have : a :: m :: (q ++ T) ++ [b] = a :: m :: u :: r := by simp [hu']
      rw [this]
      exact .cons hm (by rw [e2]; exact G.sym _ _ h10) e1
    · simp only [List.mem_cons, List.mem_append, not_or]
      refine ⟨hba, fun e => ?_, fun hx => ?_, sT.notB⟩
      · have := j1.2.1; rw [e, h3] at this; cases this
      · have := (hq b hx).2.2
        rw [j1.2.2] at this
        exact sq.notB (this ▸ hx)
    · intro t ht
      simp only [List.mem_cons, List.mem_append] at ht
      rcases ht with rfl | rfl | ht | ht
      · exact ⟨ha.1, .inl rfl, .inl (by rw [ha.2.2]; simp)⟩
      · exact ⟨h1, .inr (by rw [h4]; omega), .inr (.inr ⟨a, by simp, hm⟩)⟩
      · refine ⟨(hq t ht).1, .inr (by rw [(hq t ht).2.2]; omega), ?_⟩
        rw [(hq t ht).2.2]
        cases hu with
        | nil => exact .inr (.inl rfl)
        | cons => exact .inl (by simp)
      · obtain ⟨k1, k2, k3⟩ := hT t ht
        refine ⟨k1, .inr ?_, ?_⟩
        · rcases k2 with rfl | k2
          · rw [h11.2.2]; omega
          · omega
        · rcases k3 with k | k | ⟨x, k, k'⟩
          · exact .inl (List.mem_cons_of_mem _ k)
          · exact .inr (.inl k)
          · exact .inr (.inr ⟨x, List.mem_cons_of_mem _ k, k'⟩)

/-- From a base up to its root. -/
theorem Up.toRoot (M : Mat n adj mate) (I : InvO n adj mate S ord) : ∀ (k : Nat) (a : Nat), ord a ≤ k → IsBase n S a → ∃ xs r, Up mate S a xs r ∧ mate r = none ∧ S.root a = some r := by
  intro k
  induction k with
  | zero =>
    intro a hk ha
    cases hm : mate a with
    | none => exact ⟨[], a, .nil a, hm, (I.i4 a ha.1 hm).2⟩
    | some m =>
      obtain ⟨h1, h2, h3, h4, h5, h6, h7, h8, h9, h10, h11, h12, h13⟩ := ha.above M I hm
      omega
  | succ k ih =>
    intro a hk ha
    cases hm : mate a with
    | none => exact ⟨[], a, .nil a, hm, (I.i4 a ha.1 hm).2⟩
    | some m =>
      obtain ⟨h1, h2, h3, h4, h5, h6, h7, h8, h9, h10, h11, h12, h13⟩ := ha.above M I hm
      obtain ⟨xs, r, hu, hr, hrr⟩ := ih _ (by omega) h11
      exact ⟨a :: xs, r, .cons hm hu, hr, by rw [← hrr, (I.i9 _ h6 h7).2, h8]⟩

theorem Seg.joined {a b c : Nat} {q T : List Nat} (s : Seg adj mate S a b q) (t : Seg adj mate S b c T) (hd : ∀ x ∈ q, x ∉ T) (hc : c ∉ q) : Seg adj mate S a c (q ++ T) := by
  refine ⟨?_, ?_, ?_, ?_, ?_⟩
  · exact s.pre.append t.pre
  · exact List.nodup_append.2 ⟨s.nodup, t.nodup, fun x hx y hy e => by subst e; exact hd x hx hy⟩
  · have hh := t.head
    obtain ⟨u, r, hu⟩ := t.alt.head_cons
    rw [List.append_assoc, hu]
    rw [hu] at hh
    simp only [List.head?_cons, Option.some.injEq] at hh
    subst hh
    exact s.alt.append (by rw [← hu]; exact t.alt)
  · have h1 := s.head
    cases q with
    | nil => simp only [List.nil_append, List.head?_cons, Option.some.injEq] at h1 ⊢; subst h1; exact t.head
    | cons x y => simpa using h1
  · simp only [List.mem_append, not_or]; exact ⟨hc, t.notB⟩

/-- From any outer vertex up to a base above it. -/
theorem Up.segFrom (G : Gr n adj) (M : Mat n adj mate) (I : InvO n adj mate S ord) {v b : Nat} {xs : List Nat} (hv : v < n) (ho : S.outer v = true) (h : Up mate S (S.B v) xs b) :
    ∃ T, Seg adj mate S v b T ∧ ∀ t ∈ T, t < n ∧ (S.B t ∈ xs ∨ S.B t = b ∨ ∃ x ∈ xs, mate x = some t) := by
  have hb := IsBase.of I hv ho
  obtain ⟨T, sT, hT⟩ := h.seg G M I hb
  obtain ⟨q, sq, hq⟩ := I.i12 v hv ho
  refine ⟨q ++ T, sq.joined sT ?_ ?_, ?_⟩
  · intro x hx hxT
    have e := (hq x hx).2.2
    rcases (hT x hxT).2.1 with h | h
    · subst h; exact sq.notB hx
    · rw [e] at h; omega
  · intro hx
    have e := (hq b hx).2.2
    rw [(h.bases M I hb).1.2.2] at e
    exact sq.notB (e ▸ hx)
  · intro t ht
    rcases List.mem_append.1 ht with ht | ht
    · refine ⟨(hq t ht).1, ?_⟩
      rw [(hq t ht).2.2]
      cases h with
      | nil => exact .inr (.inl rfl)
      | cons => exact .inl (by simp)
    · exact ⟨(hT t ht).1, (hT t ht).2.2⟩

/-- THE WAY TO THE ROOT. -/
theorem InvO.way (G : Gr n adj) (M : Mat n adj mate) (I : InvO n adj mate S ord) {v : Nat} (hv : v < n) (ho : S.outer v = true) :
    ∃ r l, S.root v = some r ∧ mate r = none ∧ r < n ∧ Way mate S v r (l ++ [r]) ∧ (l ++ [r]).Nodup ∧ Alt adj mate (l ++ [r]) ∧ (l ++ [r]).head? = some v ∧ ∀ t ∈ l ++ [r], t < n ∧ S.root t = some r := by
  have hb := IsBase.of I hv ho
  obtain ⟨xs, r, hu, hr, hrr⟩ := Up.toRoot M I _ _ (Nat.le_refl _) hb
  obtain ⟨T, sT, hT⟩ := hu.segFrom G M I hv ho
  have hB := hu.bases M I hb
  have hroot : S.root v = some r := by rw [← hrr, (I.i9 v hv ho).2]
  refine ⟨r, T, hroot, hr, hB.1.1, sT.pre.way (.here r) sT.notB, ?_, sT.alt, sT.head, ?_⟩
  · exact List.nodup_append.2 ⟨sT.nodup, by simp, fun x hx y hy e => by simp at hy; subst hy; subst e; exact sT.notB hx⟩
  · intro t ht
    have hRr : S.root r = some r := by rw [hB.2.1, hrr]
    rcases List.mem_append.1 ht with ht | ht
    · obtain ⟨k1, k2⟩ := hT t ht
      refine ⟨k1, ?_⟩
      have key : ∀ x, IsBase n S x → S.root x = some r → S.B t = x → S.root t = some r := by
        intro x hx hxr e
        cases hto : S.outer t with
        | true => rw [← (I.i9 t k1 hto).2, e, hxr]
        | false => have := (I.i8 t k1 hto).1; rw [← this, e, hxr]
      rcases k2 with k | k | ⟨x, k, k'⟩
      · obtain ⟨j1, j2, _⟩ := hB.2.2.2 _ k
        exact key _ j1 (by rw [j2, hrr]) rfl
      · exact key r hB.1 hRr k
      · obtain ⟨j1, j2, _⟩ := hB.2.2.2 _ k
        have := j1.above M I k'
        rw [this.2.2.2.2.2.2.2.2.1, j2, hrr]
    · simp at ht; subst ht; exact ⟨hB.1.1, hRr⟩

/-- An edge between two trees: an augmenting path. -/
theorem InvO.augments (G : Gr n adj) (M : Mat n adj mate) (I : InvO n adj mate S ord) {v w : Nat} (hv : v < n) (ho : S.outer v = true) (hw : w < n) (hwo : S.outer w = true) (hne : S.root v ≠ S.root w) :
    ∃ r s lv lw, S.root v = some r ∧ S.root w = some s ∧ mate r = none ∧ mate s = none ∧ r ≠ s ∧ r < n ∧ s < n ∧ Way mate S v r (lv ++ [r]) ∧ Way mate S w s (lw ++ [s]) ∧ Alt adj mate (lv ++ [r]) ∧ Alt adj mate (lw ++ [s]) ∧
      (lv ++ [r]).head? = some v ∧ (lw ++ [s]).head? = some w ∧ ((lv ++ [r]).reverse ++ (lw ++ [s])).Nodup ∧
      (∀ t ∈ lv ++ [r], t < n ∧ S.root t = some r) ∧ (∀ t ∈ lw ++ [s], t < n ∧ S.root t = some s) := by
  obtain ⟨r, lv, a1, a2, a3, a4, a5, a6, a7, a8⟩ := I.way G M hv ho
  obtain ⟨s, lw, b1, b2, b3, b4, b5, b6, b7, b8⟩ := I.way G M hw hwo
  have hrs : r ≠ s := fun e => hne (by rw [a1, b1, e])
  refine ⟨r, s, lv, lw, a1, b1, a2, b2, hrs, a3, b3, a4, b4, a6, b6, a7, b7, ?_, a8, b8⟩
  refine List.nodup_append.2 ⟨by rw [List.Nodup, List.pairwise_reverse]; exact a5.imp Ne.symm, b5, ?_⟩
  intro x hx y hy e
  subst e
  have h1 := (a8 x (List.mem_reverse.1 hx)).2
  have h2 := (b8 x hy).2
  rw [h1] at h2; injection h2 with h2; exact hrs h2
end
end Gar

namespace Gar

/-- What closing a blossom makes of a forest: behind the edge v w, up to the base z. -/
structure Shrunk (n : Nat) (mate : Nat → Option Nat) (S S' : St) (v w : Nat) (xs ys : List Nat) (z : Nat) : Prop where
  label : S'.label = S.label
  pred : S'.pred = S.pred
  root : S'.root = S.root
  outer : ∀ u, u < n → (S'.outer u = true ↔ S.outer u = true ∨ ∃ x, (x ∈ xs ∨ x ∈ ys) ∧ mate x = some u)
  br1 : ∀ u x, x ∈ xs → mate x = some u → S'.bridge u = (v, w)
  br2 : ∀ u x, x ∈ ys → mate x = some u → S'.bridge u = (w, v)
  br3 : ∀ u, S.outer u = true → S'.bridge u = S.bridge u
  B1 : ∀ u, u < n → (S.B u ∈ xs ∨ S.B u ∈ ys ∨ ∃ x, (x ∈ xs ∨ x ∈ ys) ∧ mate x = some u) → S'.B u = z
  B2 : ∀ u, u < n → ¬ (S.B u ∈ xs ∨ S.B u ∈ ys ∨ ∃ x, (x ∈ xs ∨ x ∈ ys) ∧ mate x = some u) → S'.B u = S.B u

section
variable {n : Nat} {adj : Nat → Nat → Prop} {mate : Nat → Option Nat} {S S' : St} {ord : Nat → Nat}

theorem Shrunk.swap {v w : Nat} {xs ys : List Nat} {z : Nat} (h : Shrunk n mate S S' v w xs ys z) : Shrunk n mate S S' w v ys xs z := by
  refine ⟨h.label, h.pred, h.root, ?_, h.br2, h.br1, h.br3, ?_, ?_⟩
  · intro u hu; rw [h.outer u hu]; simp only [or_comm]
  · intro u hu k; refine h.B1 u hu ?_
    rcases k with k | k | ⟨x, k, k'⟩
    · exact .inr (.inl k)
    · exact .inl k
    · exact .inr (.inr ⟨x, k.symm, k'⟩)
  · intro u hu k; refine h.B2 u hu fun k' => k ?_
    rcases k' with k | k | ⟨x, k, k'⟩
    · exact .inr (.inl k)
    · exact .inl k
    · exact .inr (.inr ⟨x, k.symm, k'⟩)

theorem Seg.mono {a b : Nat} {q : List Nat} (s : Seg adj mate S a b q) (hl : ∀ v, S.label v = 1 → S'.label v = 1)
    (hp : ∀ v m, S.label v = 1 → mate v = some m → S'.pred m = S.pred m)
    (ho : ∀ v, S.outer v = true → S.label v ≠ 1 → S'.label v ≠ 1 ∧ S'.outer v = true ∧ S'.bridge v = S.bridge v) : Seg adj mate S' a b q :=
  ⟨s.pre.mono hl hp ho, s.nodup, s.alt, s.head, s.notB⟩

theorem Shrunk.segMono (h : ∃ v w xs ys z, Shrunk n mate S S' v w xs ys z) (hn : ∀ u, S.outer u = true → u < n) {a b : Nat} {q : List Nat} (s : Seg adj mate S a b q) : Seg adj mate S' a b q := by
  obtain ⟨v, w, xs, ys, z, h⟩ := h
  refine s.mono (fun v hv => by rw [h.label]; exact hv) (fun _ _ _ _ => by rw [h.pred]) fun u hu hl => ⟨by rw [h.label]; exact hl, (h.outer u (hn u hu)).2 (.inl hu), h.br3 u hu⟩

/-- What one side brings: for each vertex of it that becomes outer a way within the new blossom. -/
theorem Shrunk.side (G : Gr n adj) (M : Mat n adj mate) (I : InvO n adj mate S ord) (hn : ∀ u, S.outer u = true → u < n) {v w : Nat} {xs ys : List Nat} {z : Nat}
    (hv : v < n) (ho : S.outer v = true) (hw : w < n) (hwo : S.outer w = true) (hvw : adj v w)
    (hx : Up mate S (S.B v) xs z) (hy : Up mate S (S.B w) ys z) (hd : ∀ x ∈ xs, x ∉ ys) (h : Shrunk n mate S S' v w xs ys z) {m x : Nat} (hxm : x ∈ xs) (hm : mate x = some m) :
    ∃ q, Seg adj mate S' m z q ∧ ∀ t ∈ q, t < n ∧ (S.B t ∈ xs ∨ S.B t ∈ ys ∨ S.B t = z ∨ ∃ x, (x ∈ xs ∨ x ∈ ys) ∧ mate x = some t) := by
  have hbv := IsBase.of I hv ho
  have hbw := IsBase.of I hw hwo
  obtain ⟨xs1, xs2, rfl⟩ := List.append_of_mem hxm
  obtain ⟨hu1, hu2⟩ := hx.split
  obtain ⟨T1, s1, hT1⟩ := hu1.segFrom G M I hv ho
  obtain ⟨T2, s2, hT2⟩ := hy.segFrom G M I hw hwo
  have hBx := hx.bases M I hbv
  have hBy := hy.bases M I hbw
  obtain ⟨nx, hzx⟩ := hx.nodup M I hbv
  obtain ⟨ny, hzy⟩ := hy.nodup M I hbw
  have hxb := (hBx.2.2.2 x (by simp)).1
  obtain ⟨k1, k2, k3, k4, k5, k6, k7, k8, k9, k10, k11, k12, k13⟩ := hxb.above M I hm
  -- m is on neither part
  have hmb : ∀ u, IsBase n S u → u ≠ m := fun u hu e => by have := hu.2.1; rw [e, k3] at this; cases this
  have hmx : ∀ y, mate y = some m → y = x := fun y hy => by have := M.sym _ _ hy; rw [k5] at this; injection this with this; exact this.symm
  have hx12 : x ∉ xs1 ∧ x ∉ xs2 := by
    have := nx
    simp only [List.nodup_append, List.nodup_cons, List.mem_cons] at this
    exact ⟨fun e => this.2.2 x e x (.inl rfl) rfl, this.2.1.1⟩
  have hmT1 : m ∉ T1 := fun e => by
    rcases (hT1 m e).2 with k | k | ⟨y, k, k'⟩
    · rw [k4] at k; exact hmb _ ((hBx.2.2.2 m (by simp [k])).1) rfl
    · rw [k4] at k; exact hmb _ hxb k.symm
    · have := hmx y k'; subst this; exact hx12.1 k
  have hmT2 : m ∉ T2 := fun e => by
    rcases (hT2 m e).2 with k | k | ⟨y, k, k'⟩
    · rw [k4] at k; exact hmb _ ((hBy.2.2.2 m k).1) rfl
    · rw [k4] at k; exact hmb _ hBy.1 k.symm
    · have := hmx y k'; subst this; exact hd y hxm k
  have hmz : m ≠ z := fun e => hmb z hBx.1 e.symm
  have hxz : x ≠ z := fun e => hzx (e ▸ hxm)
  have hxT2 : x ∉ T2 := fun e => by
    rcases (hT2 x e).2 with k | k | ⟨y, k, k'⟩
    · rw [hxb.2.2] at k; exact hd x hxm k
    · rw [hxb.2.2] at k; exact hxz k
    · obtain ⟨a1, a2, a3, _⟩ := ((hBy.2.2.2 y k).1).above M I k'
      have := hxb.2.1; rw [a3] at this; cases this
  have hdis : ∀ t ∈ T1, t ∉ T2 := by
    intro t ht1 ht2
    obtain ⟨c1, c2⟩ := hT1 t ht1
    obtain ⟨_, d2⟩ := hT2 t ht2
    -- first: B t is a base of xs (or x), or t is the mate of one
    have c2' : S.B t ∈ xs1 ++ x :: xs2 ∨ ∃ y ∈ xs1, mate y = some t := by
      rcases c2 with k | k | k
      · exact .inl (by simp [k])
      · exact .inl (by simp [k])
      · exact .inr k
    rcases c2' with k | ⟨y, k, k'⟩
    · rcases d2 with e | e | ⟨y, e, e'⟩
      · exact hd _ k e
      · rw [e] at k; exact hzx k
      · obtain ⟨a1, a2, a3, a4, _⟩ := ((hBy.2.2.2 y e).1).above M I e'
        have := ((hBx.2.2.2 _ k).1).2.1
        rw [a4, a3] at this; cases this
    · obtain ⟨a1, a2, a3, a4, a5, _⟩ := ((hBx.2.2.2 y (by simp [k])).1).above M I k'
      rcases d2 with e | e | ⟨y', e, e'⟩
      · have := ((hBy.2.2.2 _ e).1).2.1
        rw [a4, a3] at this; cases this
      · have := hBx.1.2.1
        rw [← e, a4, a3] at this; cases this
      · have := M.sym _ _ e'
        rw [a5] at this; injection this with this
        subst this
        exact hd y (by simp [k]) e
  have hzT1 : z ∉ T1 := fun e => by
    obtain ⟨c1, c2⟩ := hT1 z e
    rw [hBx.1.2.2] at c2
    rcases c2 with k | k | ⟨y, k, k'⟩
    · exact hzx (by simp [k])
    · exact hxz k.symm
    · obtain ⟨a1, a2, a3, a4, a5, _⟩ := ((hBx.2.2.2 y (by simp [k])).1).above M I k'
      have := hBx.1.2.1; rw [a3] at this; cases this
  have hS1 : Seg adj mate S' v x T1 := Shrunk.segMono ⟨v, w, _, ys, z, h⟩ hn s1
  have hS2 : Seg adj mate S' w z T2 := Shrunk.segMono ⟨v, w, _, ys, z, h⟩ hn s2
  have hbr : S'.bridge m = (v, w) := h.br1 m x hxm hm
  have hmo : S'.outer m = true := (h.outer m k1).2 (.inr ⟨x, .inl hxm, hm⟩)
  have w1 : Way mate S' v x (T1 ++ [x]) := hS1.pre.way (.here x) hS1.notB
  refine ⟨m :: ((T1 ++ [x]).reverse ++ T2), ⟨?_, ?_, ?_, by simp, ?_⟩, ?_⟩
  · exact .odd (by rw [h.label, k2]; decide) hmo k5 (by rw [hbr]; exact w1) (by rw [hbr]; exact hS2.pre)
  · simp only [List.reverse_append, List.reverse_cons, List.reverse_nil, List.nil_append, List.cons_append, List.nodup_cons, List.mem_cons, List.mem_append, List.mem_reverse, not_or, List.nodup_append]
    refine ⟨⟨fun e => hmb x hxb e.symm, hmT1, hmT2⟩, ⟨hS1.notB, hxT2⟩, ?_, hS2.nodup, fun a ha b hb e => by subst e; exact hdis a ha hb⟩
    rw [List.Nodup, List.pairwise_reverse]; exact hS1.nodup.imp Ne.symm
  · obtain ⟨u, r, hu⟩ := hS2.alt.head_cons
    have hh := hS2.head
    rw [hu] at hh; simp only [List.head?_cons, Option.some.injEq] at hh; subst hh
    have := Alt.turn G M hS1.alt k5 v hS1.head hvw (by rw [← hu]; exact hS2.alt)
    rw [← hu] at this
    simpa using this
  · simp only [List.mem_cons, List.mem_append, List.mem_reverse, not_or]
    exact ⟨Ne.symm hmz, ⟨hzT1, by simpa using Ne.symm hxz⟩, hS2.notB⟩
  · intro t ht
    simp only [List.mem_cons, List.mem_append, List.mem_reverse] at ht
    rcases ht with rfl | (ht | ht) | ht
    · exact ⟨k1, .inr (.inr (.inr ⟨x, .inl hxm, hm⟩))⟩
    · obtain ⟨c1, c2⟩ := hT1 t ht
      refine ⟨c1, ?_⟩
      rcases c2 with k | k | ⟨y, k, k'⟩
      · exact .inl (by simp [k])
      · exact .inl (by simp [k])
      · exact .inr (.inr (.inr ⟨y, .inl (by simp [k]), k'⟩))
    · simp at ht; subst ht; exact ⟨hxb.1, .inl (by rw [hxb.2.2]; exact hxm)⟩
    · obtain ⟨c1, c2⟩ := hT2 t ht
      refine ⟨c1, ?_⟩
      rcases c2 with k | k | ⟨y, k, k'⟩
      · exact .inr (.inl k)
      · exact .inr (.inr (.inl k))
      · exact .inr (.inr (.inr ⟨y, .inr k, k'⟩))

/-- A BLOSSOM CLOSES. -/
theorem InvO.shrink (G : Gr n adj) (M : Mat n adj mate) (I : InvO n adj mate S ord) (hn : ∀ u, S.outer u = true → u < n) {v w : Nat} {xs ys : List Nat} {z : Nat}
    (hv : v < n) (ho : S.outer v = true) (hw : w < n) (hwo : S.outer w = true) (hvw : adj v w)
    (hx : Up mate S (S.B v) xs z) (hy : Up mate S (S.B w) ys z) (hd : ∀ x ∈ xs, x ∉ ys) (h : Shrunk n mate S S' v w xs ys z) :
    InvO n adj mate S' ord := by
  have hbv := IsBase.of I hv ho
  have hbw := IsBase.of I hw hwo
  have hBx := hx.bases M I hbv
  have hBy := hy.bases M I hbw
  obtain ⟨nx, hzx⟩ := hx.nodup M I hbv
  obtain ⟨ny, hzy⟩ := hy.nodup M I hbw
  have hz := hBx.1
  have hroots : S.root (S.B v) = S.root z := hBx.2.1.symm
  have hrootw : S.root (S.B w) = S.root z := hBy.2.1.symm
  -- each that is passed: a base, above which z lies
  have hX : ∀ x, (x ∈ xs ∨ x ∈ ys) → IsBase n S x ∧ S.root x = S.root z ∧ ord z < ord x ∧ x ≠ z := by
    intro x hx'
    rcases hx' with k | k
    · obtain ⟨a, b, c, _⟩ := hBx.2.2.2 x k; exact ⟨a, by rw [b, hroots], c, fun e => hzx (e ▸ k)⟩
    · obtain ⟨a, b, c, _⟩ := hBy.2.2.2 x k; exact ⟨a, by rw [b, hrootw], c, fun e => hzy (e ▸ k)⟩
  have hin : ∀ u, (∃ x, (x ∈ xs ∨ x ∈ ys) ∧ mate x = some u) ∨ ¬ (∃ x, (x ∈ xs ∨ x ∈ ys) ∧ mate x = some u) := fun u => Classical.em _
  have dec : ∀ u, (S.B u ∈ xs ∨ S.B u ∈ ys ∨ ∃ x, (x ∈ xs ∨ x ∈ ys) ∧ mate x = some u) ∨ ¬ (S.B u ∈ xs ∨ S.B u ∈ ys ∨ ∃ x, (x ∈ xs ∨ x ∈ ys) ∧ mate x = some u) := fun u => Classical.em _
  have hmm : ∀ m x, (x ∈ xs ∨ x ∈ ys) → mate x = some m → S.outer m = false ∧ S.B m = m ∧ S.label m = 2 ∧ S.root m = S.root z ∧ ord z < ord m ∧ m < n ∧ mate m = some x := by
    intro m x hx' hm
    obtain ⟨a, b, c, d⟩ := hX x hx'
    obtain ⟨k1, k2, k3, k4, k5, k6, k7, k8, k9, k10, k11, k12, k13⟩ := a.above M I hm
    refine ⟨k3, k4, k2, by rw [k9, b], ?_, k1, k5⟩
    -- z lies at or above what lies above x
    have : ord z ≤ ord (S.B (S.pred m)) := by
      rcases hx' with k | k
      · obtain ⟨l1, l2, rfl⟩ := List.append_of_mem k
        obtain ⟨_, u2⟩ := hx.split
        cases u2 with
        | cons e1 e2 => rw [hm] at e1; injection e1 with e1; subst e1; exact (e2.bases M I k11).2.2.1
      · obtain ⟨l1, l2, rfl⟩ := List.append_of_mem k
        obtain ⟨_, u2⟩ := hy.split
        cases u2 with
        | cons e1 e2 => rw [hm] at e1; injection e1 with e1; subst e1; exact (e2.bases M I k11).2.2.1
    omega
  have hzin : ¬ (S.B z ∈ xs ∨ S.B z ∈ ys ∨ ∃ x, (x ∈ xs ∨ x ∈ ys) ∧ mate x = some z) := by
    rw [hz.2.2]
    rintro (k | k | ⟨x, k, k'⟩)
    · exact hzx k
    · exact hzy k
    · have := (hmm z x k k').1; rw [hz.2.1] at this; cases this
  have hBz : S'.B z = z := by rw [h.B2 z hz.1 hzin, hz.2.2]
  have hom : ∀ u, u < n → S.outer u = true → S'.outer u = true := fun u hu k => (h.outer u hu).2 (.inl k)
  -- the classes hang on the old ones
  have hcong : ∀ u t, u < n → t < n → S.B u = S.B t → S'.B u = S'.B t := by
    intro u t hu ht e
    have key : ∀ u t, u < n → t < n → S.B u = S.B t → (S.B u ∈ xs ∨ S.B u ∈ ys ∨ ∃ x, (x ∈ xs ∨ x ∈ ys) ∧ mate x = some u) → (S.B t ∈ xs ∨ S.B t ∈ ys ∨ ∃ x, (x ∈ xs ∨ x ∈ ys) ∧ mate x = some t) := by
      intro u t hu ht e k
      rcases k with k | k | ⟨x, k, k'⟩
      · exact .inl (e ▸ k)
      · exact .inr (.inl (e ▸ k))
      · obtain ⟨a, b, c, _⟩ := hmm u x k k'
        have := (I.i8 u hu a).2 t ht (by rw [← e, b])
        subst this; exact .inr (.inr ⟨x, k, k'⟩)
    rcases dec u with k | k
    · rw [h.B1 u hu k, h.B1 t ht (key u t hu ht e k)]
    · have k2 : ¬ _ := fun k2 => k (key t u ht hu e.symm k2)
      rw [h.B2 u hu k, h.B2 t ht k2, e]
  refine ⟨?_, ?_, ?_, ?_, ?_, ?_, ?_, ?_, ?_, ?_, ?_, ?_, ?_, ?_, ?_⟩
  · intro u hu; rw [h.label]; exact I.i1 u hu
  · intro u hu k
    rw [h.label]
    rcases (h.outer u hu).1 k with k | ⟨x, k, k'⟩
    · exact I.i2 u hu k
    · rw [(hmm u x k k').2.2.1]; decide
  · intro u hu k; rw [h.label] at k; exact hom u hu (I.i2' u hu k)
  · intro u hu; rw [h.label, h.root]; exact I.i3 u hu
  · intro u hu k; rw [h.label, h.root]; exact I.i4 u hu k
  · intro u hu k
    rw [h.label] at k
    obtain ⟨x, a1, a2, a3, a4, a5, a6, a7⟩ := I.i5 u hu k
    rw [h.label, h.root, h.pred]
    exact ⟨x, a1, a2, a3, a4, hom _ a4 a5, a6, a7⟩
  · intro x m hx' k1 k2; rw [h.label] at *; exact I.i6 x m hx' k1 k2
  · intro u hu
    rcases dec u with k | k
    · rw [h.B1 u hu k]; exact ⟨hz.1, hBz⟩
    · rw [h.B2 u hu k]
      obtain ⟨a, b⟩ := I.i7 u hu
      refine ⟨a, ?_⟩
      have : S'.B (S.B u) = S'.B u := hcong _ _ a hu b
      rw [this, h.B2 u hu k]
  · intro u hu k
    have ko : S.outer u = false := by
      cases e : S.outer u with
      | false => rfl
      | true => rw [hom u hu e] at k; cases k
    have kn : ¬ ∃ x, (x ∈ xs ∨ x ∈ ys) ∧ mate x = some u := fun e => by rw [(h.outer u hu).2 (.inr e)] at k; cases k
    obtain ⟨a, b⟩ := I.i8 u hu ko
    have ku : ¬ (S.B u ∈ xs ∨ S.B u ∈ ys ∨ ∃ x, (x ∈ xs ∨ x ∈ ys) ∧ mate x = some u) := by
      rw [a]
      rintro (e | e | e)
      · have := (hX u (.inl e)).1.2.1; rw [ko] at this; cases this
      · have := (hX u (.inr e)).1.2.1; rw [ko] at this; cases this
      · exact kn e
    refine ⟨by rw [h.B2 u hu ku, a], fun t ht e => ?_⟩
    rcases dec t with k' | k'
    · rw [h.B1 t ht k'] at e; subst e; rw [hz.2.1] at ko; cases ko
    · rw [h.B2 t ht k'] at e; exact b t ht e
  · intro u hu k
    rw [h.label, h.root]
    rcases dec u with k' | k'
    · rw [h.B1 u hu k']
      refine ⟨hz.label I, ?_⟩
      have hroot : ∀ x, (x ∈ xs ∨ x ∈ ys) → S.B u = x → S.root z = S.root u := by
        intro x hx' e
        cases hu' : S.outer u with
        | true => rw [← (I.i9 u hu hu').2, e, (hX x hx').2.1]
        | false => have := (I.i8 u hu hu').1; rw [this] at e; rw [e, (hX x hx').2.1]
      rcases k' with e | e | ⟨x, e, e'⟩
      · exact hroot _ (.inl e) rfl
      · exact hroot _ (.inr e) rfl
      · exact (hmm u x e e').2.2.2.1.symm
    · rw [h.B2 u hu k']
      refine I.i9 u hu ?_
      rcases (h.outer u hu).1 k with e | e
      · exact e
      · exact absurd (.inr (.inr e)) k'
  · intro m x hm k1 k2
    rw [h.label] at k1
    obtain ⟨a, b⟩ := I.i10 m x hm k1 k2
    have hxn := (M.lt _ _ k2).2
    have hxl : S.label x = 1 := by
      obtain ⟨x', a1, a2, _⟩ := I.i5 m hm k1
      rw [k2] at a1; injection a1 with a1; subst a1; exact a2
    constructor
    · intro k
      rcases (h.outer m hm).1 k with e | ⟨y, e, e'⟩
      · obtain ⟨c, d⟩ := a e
        refine ⟨hcong _ _ hm hxn c, ?_⟩
        rcases dec x with k' | k'
        · rw [h.B1 x hxn k']; intro e; subst e; exact d hz.2.2
        · rw [h.B2 x hxn k']; exact d
      · obtain ⟨c1, c2, c3, c4, c5, c6, c7⟩ := hmm m y e e'
        rw [c7] at k2; injection k2 with k2; subst k2
        have hyb := (hX y e).1
        have : S.B y ∈ xs ∨ S.B y ∈ ys ∨ ∃ x, (x ∈ xs ∨ x ∈ ys) ∧ mate x = some y := by
          rw [hyb.2.2]
          rcases e with e | e
          · exact .inl e
          · exact .inr (.inl e)
        rw [h.B1 y hxn this, h.B1 m hm (.inr (.inr ⟨y, e, e'⟩))]
        exact ⟨rfl, Ne.symm (hX y e).2.2.2⟩
    · intro k
      have ko : S.outer m = false := by
        cases e : S.outer m with
        | false => rfl
        | true => rw [hom m hm e] at k; cases k
      have hBx' := b ko
      have kx : ¬ (S.B x ∈ xs ∨ S.B x ∈ ys ∨ ∃ y, (y ∈ xs ∨ y ∈ ys) ∧ mate y = some x) := by
        rw [hBx']
        have hmx := M.sym _ _ k2
        rintro (e | e | ⟨y, e, e'⟩)
        · rw [(h.outer m hm).2 (.inr ⟨x, .inl e, hmx⟩)] at k; cases k
        · rw [(h.outer m hm).2 (.inr ⟨x, .inr e, hmx⟩)] at k; cases k
        · have := (hmm x y e e').2.2.1; rw [hxl] at this; cases this
      rw [h.B2 x hxn kx, hBx']
  · intro m x hm k1 k2; rw [h.label] at k1; rw [h.pred]; exact I.i11 m x hm k1 k2
  · intro u hu k
    rcases dec u with k' | k'
    · rw [h.B1 u hu k']
      have hroot : ∀ x, (x ∈ xs ∨ x ∈ ys) → S.B u = x → ord z ≤ ord u := by
        intro x hx' e
        have := (hX x hx').2.2.1
        cases hu' : S.outer u with
        | true => have := I.i11' u hu hu'; rw [e] at this; omega
        | false => have h3 := (I.i8 u hu hu').1; rw [h3] at e; subst e; omega
      rcases k' with e | e | ⟨x, e, e'⟩
      · exact hroot _ (.inl e) rfl
      · exact hroot _ (.inr e) rfl
      · have := (hmm u x e e').2.2.2.2.1; omega
    · rw [h.B2 u hu k']
      refine I.i11' u hu ?_
      rcases (h.outer u hu).1 k with e | e
      · exact e
      · exact absurd (.inr (.inr e)) k'
  · intro u hu k
    have fin : ∀ q, Seg adj mate S' u z q → (∀ t ∈ q, t < n ∧ (S.B t ∈ xs ∨ S.B t ∈ ys ∨ S.B t = z ∨ ∃ x, (x ∈ xs ∨ x ∈ ys) ∧ mate x = some t)) → S'.B u = z →
        ∃ q, Seg adj mate S' u (S'.B u) q ∧ ∀ t ∈ q, t < n ∧ S'.outer t = true ∧ S'.B t = S'.B u := by
      intro q sq hq e
      refine ⟨q, by rw [e]; exact sq, fun t ht => ?_⟩
      obtain ⟨a, b⟩ := hq t ht
      have hout : ∀ x, (x ∈ xs ∨ x ∈ ys ∨ x = z) → S.B t = x → S'.outer t = true := by
        intro x hx' e
        cases ht' : S.outer t with
        | true => exact hom t a ht'
        | false =>
          have h3 := (I.i8 t a ht').1
          rw [h3] at e
          have : S.outer x = true := by
            rcases hx' with k | k | k
            · exact (hX x (.inl k)).1.2.1
            · exact (hX x (.inr k)).1.2.1
            · rw [k]; exact hz.2.1
          rw [← e, ht'] at this; cases this
      refine ⟨a, ?_, ?_⟩
      · rcases b with b | b | b | ⟨x, b, b'⟩
        · exact hout _ (.inl b) rfl
        · exact hout _ (.inr (.inl b)) rfl
        · exact hout z (.inr (.inr rfl)) b
        · exact (h.outer t a).2 (.inr ⟨x, b, b'⟩)
      · rw [e]
        rcases b with b | b | b | b
        · exact h.B1 t a (.inl b)
        · exact h.B1 t a (.inr (.inl b))
        · rw [hcong t z a hz.1 (by rw [b, hz.2.2]), hBz]
        · exact h.B1 t a (.inr (.inr b))
    rcases dec u with k' | k'
    · have hBu := h.B1 u hu k'
      rcases Classical.em (∃ x, (x ∈ xs ∨ x ∈ ys) ∧ mate x = some u) with ⟨x, e, e'⟩ | e
      · rcases e with e | e
        · obtain ⟨q, sq, hq⟩ := Shrunk.side G M I hn hv ho hw hwo hvw hx hy hd h e e'
          exact fin q sq hq hBu
        · obtain ⟨q, sq, hq⟩ := Shrunk.side G M I hn hw hwo hv ho (G.sym _ _ hvw) hy hx (fun x a b => hd x b a) h.swap e e'
          refine fin q sq (fun t ht => ?_) hBu
          obtain ⟨a, b⟩ := hq t ht
          refine ⟨a, ?_⟩
          rcases b with b | b | b | ⟨x, b, b'⟩
          · exact .inr (.inl b)
          · exact .inl b
          · exact .inr (.inr (.inl b))
          · exact .inr (.inr (.inr ⟨x, b.symm, b'⟩))
      · -- outer before, in a class that is passed
        have huo : S.outer u = true := by
          rcases (h.outer u hu).1 k with k | k
          · exact k
          · exact absurd k e
        have hk : S.B u ∈ xs ∨ S.B u ∈ ys := by
          rcases k' with k' | k' | k'
          · exact .inl k'
          · exact .inr k'
          · exact absurd k' e
        rcases hk with hk | hk
        · obtain ⟨l1, l2, hl⟩ := List.append_of_mem hk
          rw [hl] at hx
          obtain ⟨_, u2⟩ := hx.split
          obtain ⟨T, sT, hT⟩ := u2.segFrom G M I hu huo
          refine fin T (Shrunk.segMono ⟨v, w, xs, ys, z, h⟩ hn sT) (fun t ht => ?_) hBu
          obtain ⟨a, b⟩ := hT t ht
          refine ⟨a, ?_⟩
          rw [hl]
          rcases b with b | b | ⟨x, b, b'⟩
          · exact .inl (List.mem_append_right _ b)
          · exact .inr (.inr (.inl b))
          · exact .inr (.inr (.inr ⟨x, .inl (List.mem_append_right _ b), b'⟩))
        · obtain ⟨l1, l2, hl⟩ := List.append_of_mem hk
          rw [hl] at hy
          obtain ⟨_, u2⟩ := hy.split
          obtain ⟨T, sT, hT⟩ := u2.segFrom G M I hu huo
          refine fin T (Shrunk.segMono ⟨v, w, xs, ys, z, h⟩ hn sT) (fun t ht => ?_) hBu
          obtain ⟨a, b⟩ := hT t ht
          refine ⟨a, ?_⟩
          rw [hl]
          rcases b with b | b | ⟨x, b, b'⟩
          · exact .inr (.inl (List.mem_append_right _ b))
          · exact .inr (.inr (.inl b))
          · exact .inr (.inr (.inr ⟨x, .inr (List.mem_append_right _ b), b'⟩))
    · have huo : S.outer u = true := by
        rcases (h.outer u hu).1 k with k | k
        · exact k
        · exact absurd (.inr (.inr k)) k'
      obtain ⟨q, sq, hq⟩ := I.i12 u hu huo
      have hBu := h.B2 u hu k'
      refine ⟨q, by rw [hBu]; exact Shrunk.segMono ⟨v, w, xs, ys, z, h⟩ hn sq, fun t ht => ?_⟩
      obtain ⟨a, b, c⟩ := hq t ht
      exact ⟨a, hom t a b, hcong t u a hu c⟩
  · intro u r hu k; rw [h.root] at k; exact I.i13 u r hu k
end
end Gar

namespace Gar

/-- What the start is: all vertices without mates are roots. -/
structure Begun (n : Nat) (mate : Nat → Option Nat) (S : St) : Prop where
  free : ∀ v, v < n → mate v = none → S.label v = 1 ∧ S.outer v = true ∧ S.root v = some v
  other : ∀ v, v < n → mate v ≠ none → S.label v = 0 ∧ S.outer v = false ∧ S.root v = none
  B : ∀ v, v < n → S.B v = v

/-- What a tree has more: a vertex that was not come to, from an outer one, and its mate. -/
structure Grown (n : Nat) (S S' : St) (v w x : Nat) : Prop where
  label : ∀ u, S'.label u = if u = w then 2 else if u = x then 1 else S.label u
  outer : ∀ u, S'.outer u = if u = x then true else S.outer u
  pred : ∀ u, S'.pred u = if u = w then v else S.pred u
  root : ∀ u, S'.root u = if u = w then S.root v else if u = x then S.root v else S.root u
  bridge : S'.bridge = S.bridge
  B : ∀ u, S'.B u = S.B u

section
variable {n : Nat} {adj : Nat → Nat → Prop} {mate : Nat → Option Nat} {S S' : St} {ord : Nat → Nat}

theorem Begun.inv (h : Begun n mate S) : InvO n adj mate S (fun _ => 0) := by
  have h2 : ∀ v, v < n → S.label v ≠ 2 := by
    intro v hv e
    cases hm : mate v with
    | none => rw [(h.free v hv hm).1] at e; cases e
    | some m => rw [(h.other v hv (by rw [hm]; simp)).1] at e; cases e
  have h1 : ∀ v, v < n → (mate v = none ∧ S.label v = 1 ∧ S.outer v = true ∧ S.root v = some v) ∨ (mate v ≠ none ∧ S.label v = 0 ∧ S.outer v = false ∧ S.root v = none) := by
    intro v hv
    cases hm : mate v with
    | none => exact .inl ⟨rfl, h.free v hv hm⟩
    | some m => exact .inr ⟨by simp, h.other v hv (by rw [hm]; simp)⟩
  refine ⟨?_, ?_, ?_, ?_, ?_, ?_, ?_, ?_, ?_, ?_, ?_, ?_, ?_, ?_, ?_⟩
  · intro v hv; rcases h1 v hv with ⟨a, b, c, d⟩ | ⟨a, b, c, d⟩ <;> omega
  · intro v hv k; rcases h1 v hv with ⟨a, b, c, d⟩ | ⟨a, b, c, d⟩
    · omega
    · rw [c] at k; cases k
  · intro v hv k; rcases h1 v hv with ⟨a, b, c, d⟩ | ⟨a, b, c, d⟩
    · exact c
    · omega
  · intro v hv; rcases h1 v hv with ⟨a, b, c, d⟩ | ⟨a, b, c, d⟩ <;> simp [b, d]
  · intro v hv k; exact ⟨(h.free v hv k).1, (h.free v hv k).2.2⟩
  · intro v hv k; exact absurd k (h2 v hv)
  · intro x m hx k e
    rcases h1 x hx with ⟨a, b, c, d⟩ | ⟨a, b, c, d⟩
    · rw [a] at e; cases e
    · omega
  · intro v hv; rw [h.B v hv]; exact ⟨hv, h.B v hv⟩
  · intro v hv _; exact ⟨h.B v hv, fun u hu e => by rw [h.B u hu] at e; exact e⟩
  · intro v hv k; rw [h.B v hv]
    rcases h1 v hv with ⟨a, b, c, d⟩ | ⟨a, b, c, d⟩
    · exact ⟨b, rfl⟩
    · rw [c] at k; cases k
  · intro m x hm k; exact absurd k (h2 m hm)
  · intro m x hm k; exact absurd k (h2 m hm)
  · intro v hv _; exact Nat.le_refl _
  · intro v hv _; rw [h.B v hv]; exact ⟨[], ⟨.nil v, by simp, .one v, rfl, by simp⟩, by simp⟩
  · intro v r hv k
    rcases h1 v hv with ⟨a, b, c, d⟩ | ⟨a, b, c, d⟩
    · rw [d] at k; injection k with k; subst k; exact ⟨hv, a⟩
    · rw [d] at k; cases k

theorem bounded (f : Nat → Nat) : ∀ n, ∃ N, ∀ u, u < n → f u < N
  | 0 => ⟨0, by simp⟩
  | n + 1 => by
    obtain ⟨N, h⟩ := bounded f n
    refine ⟨max N (f n + 1), fun u hu => ?_⟩
    rcases Nat.lt_or_ge u n with k | k
    · have := h u k; omega
    · have : u = n := by omega
      subst this; omega

/-- The mate of a vertex that was not come to was not come to. -/
theorem InvO.mateOut (M : Mat n adj mate) (I : InvO n adj mate S ord) {w x : Nat} (h0 : S.label w = 0) (hm : mate w = some x) : S.label x = 0 := by
  have hx := (M.lt _ _ hm).2
  have h2 := I.i1 x hx
  have hxw := M.sym _ _ hm
  have : S.label x ≠ 1 := fun e => by have := I.i6 x w hx e hxw; omega
  have : S.label x ≠ 2 := fun e => by
    obtain ⟨y, a, b, _⟩ := I.i5 x hx e
    rw [hxw] at a; injection a with a; subst a; omega
  omega

theorem InvO.mateThere (I : InvO n adj mate S ord) {w : Nat} (hw : w < n) (h0 : S.label w = 0) : ∃ x, mate w = some x := by
  cases hm : mate w with
  | some x => exact ⟨x, rfl⟩
  | none => have := (I.i4 w hw hm).1; omega

/-- A TREE GROWS. -/
theorem InvO.grow (G : Gr n adj) (M : Mat n adj mate) (I : InvO n adj mate S ord) {v w x : Nat} (hv : v < n) (ho : S.outer v = true) (hvw : adj v w) (h0 : S.label w = 0) (hm : mate w = some x)
    (h : Grown n S S' v w x) : Inv n adj mate S' := by
  obtain ⟨N, hN⟩ := bounded ord n
  have hw := (G.lt _ _ hvw).2
  have hx := (M.lt _ _ hm).2
  have hxw := M.sym _ _ hm
  have hx0 := I.mateOut M h0 hm
  have hwx : w ≠ x := fun e => G.irr w (by have := M.adj _ _ hm; rw [← e] at this; exact this)
  have hout : ∀ u, u < n → S.label u = 0 → S.outer u = false := fun u hu e => by
    cases k : S.outer u with
    | false => rfl
    | true => exact absurd e (I.i2 u hu k)
  have hwo := hout w hw h0
  have hxo := hout x hx hx0
  have hvw' : v ≠ w := fun e => by subst e; rw [hwo] at ho; cases ho
  have hvx : v ≠ x := fun e => by subst e; rw [hxo] at ho; cases ho
  obtain ⟨bw, bw'⟩ := I.i8 w hw hwo
  obtain ⟨bx, bx'⟩ := I.i8 x hx hxo
  have hvl : S.label v ≠ 0 := I.i2 v hv ho
  have hrv : ∃ r, S.root v = some r := by
    cases k : S.root v with
    | some r => exact ⟨r, rfl⟩
    | none => exact absurd ((I.i3 v hv).2 k) hvl
  have ne0 : ∀ u, S.label u ≠ 0 → u ≠ w ∧ u ≠ x := fun u k => ⟨fun e => k (e ▸ h0), fun e => k (e ▸ hx0)⟩
  have oth : ∀ u, u ≠ w → u ≠ x → S'.label u = S.label u ∧ S'.outer u = S.outer u ∧ S'.pred u = S.pred u ∧ S'.root u = S.root u := fun u a b => by
    refine ⟨?_, ?_, ?_, ?_⟩
    · rw [h.label]; simp [a, b]
    · rw [h.outer]; simp [b]
    · rw [h.pred]; simp [a]
    · rw [h.root]; simp [a, b]
  have lw : S'.label w = 2 := by rw [h.label]; simp
  have lx : S'.label x = 1 := by rw [h.label]; simp [Ne.symm hwx]
  have ow : S'.outer w = false := by rw [h.outer]; simp [hwx, hwo]
  have ox : S'.outer x = true := by rw [h.outer]; simp
  have pw : S'.pred w = v := by rw [h.pred]; simp
  have rw' : S'.root w = S.root v := by rw [h.root]; simp
  have rx : S'.root x = S.root v := by rw [h.root]; simp [Ne.symm hwx]
  have obv := oth v hvw' hvx
  -- by kinds
  have kind : ∀ u, u = w ∨ u = x ∨ (u ≠ w ∧ u ≠ x) := fun u => by
    by_cases a : u = w
    · exact .inl a
    · by_cases b : u = x
      · exact .inr (.inl b)
      · exact .inr (.inr ⟨a, b⟩)
  have hs : ∀ {a b q}, Seg adj mate S a b q → Seg adj mate S' a b q := by
    intro a b q s
    refine s.mono ?_ ?_ ?_
    · intro u k; obtain ⟨a, b⟩ := ne0 u (by omega); rw [(oth u a b).1]; exact k
    · intro u m k e
      have hu := (M.lt _ _ e).1
      have := I.i6 u m hu k e
      obtain ⟨a, b⟩ := ne0 m (by omega)
      exact (oth m a b).2.2.1
    · intro u k k'
      have hu : S'.outer u = true := by rw [h.outer]; simp [k]
      refine ⟨?_, hu, by rw [h.bridge]⟩
      rcases kind u with e | e | ⟨e, e'⟩
      · rw [e, lw]; decide
      · subst e; rw [hxo] at k; cases k
      · rw [(oth u e e').1]; exact k'
  have hmx : ∀ y, mate y = some w → y = x := fun y e => by have := M.sym _ _ e; rw [hm] at this; injection this with this; exact this.symm
  have hmw : ∀ y, mate y = some x → y = w := fun y e => by have := M.sym _ _ e; rw [hxw] at this; injection this with this; exact this.symm
  refine ⟨fun u => if u = w then N else if u = x then N + 1 else ord u, ?_, ?_, ?_, ?_, ?_, ?_, ?_, ?_, ?_, ?_, ?_, ?_, ?_, ?_, ?_⟩
  · intro u hu
    rcases kind u with e | e | ⟨e, e'⟩
    · rw [e, lw]; decide
    · rw [e, lx]; decide
    · rw [(oth u e e').1]; exact I.i1 u hu
  · intro u hu k
    rcases kind u with e | e | ⟨e, e'⟩
    · rw [e, lw]; decide
    · rw [e, lx]; decide
    · obtain ⟨a, b, c, d⟩ := oth u e e'; rw [a]; rw [b] at k; exact I.i2 u hu k
  · intro u hu k
    rcases kind u with e | e | ⟨e, e'⟩
    · rw [e, lw] at k; cases k
    · rw [e, ox]
    · obtain ⟨a, b, c, d⟩ := oth u e e'; rw [b]; rw [a] at k; exact I.i2' u hu k
  · intro u hu
    rcases kind u with e | e | ⟨e, e'⟩
    · obtain ⟨r, hr⟩ := hrv; rw [e, lw, rw', hr]; simp
    · obtain ⟨r, hr⟩ := hrv; rw [e, lx, rx, hr]; simp
    · obtain ⟨a, b, c, d⟩ := oth u e e'; rw [a, d]; exact I.i3 u hu
  · intro u hu k
    rcases kind u with e | e | ⟨e, e'⟩
    · rw [e, hm] at k; cases k
    · rw [e, hxw] at k; cases k
    · obtain ⟨a, b, c, d⟩ := oth u e e'; rw [a, d]; exact I.i4 u hu k
  · intro u hu k
    rcases kind u with e | e | ⟨e, e'⟩
    · subst e
      refine ⟨x, hm, lx, by rw [rx, rw'], by rw [pw]; exact hv, ?_, ?_, by rw [pw]; exact hvw⟩
      · rw [pw, obv.2.1]; exact ho
      · rw [pw, obv.2.2.2, rw']
    · rw [e, lx] at k; cases k
    · obtain ⟨a, b, c, d⟩ := oth u e e'
      rw [a] at k
      obtain ⟨y, a1, a2, a3, a4, a5, a6, a7⟩ := I.i5 u hu k
      obtain ⟨y1, y2⟩ := ne0 y (by omega)
      obtain ⟨p1, p2⟩ := ne0 _ (I.i2 _ a4 a5)
      rw [c, d, (oth _ p1 p2).2.2.2, (oth _ p1 p2).2.1]
      exact ⟨y, a1, by rw [(oth y y1 y2).1]; exact a2, by rw [(oth y y1 y2).2.2.2]; exact a3, a4, a5, a6, a7⟩
  · intro u m hu k e
    rcases kind u with e1 | e1 | ⟨e1, e2⟩
    · rw [e1, lw] at k; cases k
    · rw [e1, hxw] at e; injection e with e; rw [← e, lw]
    · rw [(oth u e1 e2).1] at k
      have := I.i6 u m hu k e
      obtain ⟨a, b⟩ := ne0 m (by omega)
      rw [(oth m a b).1]; exact this
  · intro u hu; rw [h.B, h.B]; exact I.i7 u hu
  · intro u hu k
    rw [h.B]
    rcases kind u with e | e | ⟨e, e'⟩
    · subst e; exact ⟨bw, fun t ht e => bw' t ht (by rw [h.B] at e; exact e)⟩
    · rw [e, ox] at k; cases k
    · obtain ⟨a, b, c, d⟩ := oth u e e'
      rw [b] at k
      obtain ⟨i, j⟩ := I.i8 u hu k
      exact ⟨i, fun t ht e => j t ht (by rw [h.B] at e; exact e)⟩
  · intro u hu k
    rw [h.B]
    rcases kind u with e | e | ⟨e, e'⟩
    · rw [e, ow] at k; cases k
    · subst e; rw [bx]; exact ⟨lx, rfl⟩
    · obtain ⟨a, b, c, d⟩ := oth u e e'
      rw [b] at k
      obtain ⟨i, j⟩ := I.i9 u hu k
      obtain ⟨p, q⟩ := ne0 (S.B u) (by omega)
      rw [(oth _ p q).1, (oth _ p q).2.2.2, d]; exact ⟨i, j⟩
  · intro m y hm' k e
    rw [h.B, h.B]
    rcases kind m with e1 | e1 | ⟨e1, e2⟩
    · subst e1; rw [hm] at e; injection e with e; subst e
      exact ⟨fun k => (by rw [ow] at k; cases k), fun _ => bx⟩
    · rw [e1, lx] at k; cases k
    · obtain ⟨a, b, c, d⟩ := oth m e1 e2
      rw [a] at k; rw [b]
      exact I.i10 m y hm' k e
  · intro m y hm' k e
    rcases kind m with e1 | e1 | ⟨e1, e2⟩
    · subst e1; rw [hm] at e; injection e with e; subst e
      have := hN v hv
      rw [pw]; simp [hvw', hvx, Ne.symm hwx, this]
    · rw [e1, lx] at k; cases k
    · obtain ⟨a, b, c, d⟩ := oth m e1 e2
      rw [a] at k
      obtain ⟨p, q⟩ := I.i11 m y hm' k e
      obtain ⟨z, a1, a2, a3, a4, a5, a6, a7⟩ := I.i5 m hm' k
      rw [e] at a1; injection a1 with a1; subst a1
      obtain ⟨y1, y2⟩ := ne0 y (by omega)
      obtain ⟨p1, p2⟩ := ne0 _ (I.i2 _ a4 a5)
      rw [c]; simp [e1, e2, y1, y2, p1, p2, p, q]
  · intro u hu k
    rw [h.B]
    rcases kind u with e | e | ⟨e, e'⟩
    · rw [e, ow] at k; cases k
    · subst e; rw [bx]; exact Nat.le_refl _
    · obtain ⟨a, b, c, d⟩ := oth u e e'
      rw [b] at k
      obtain ⟨i, j⟩ := I.i9 u hu k
      obtain ⟨p, q⟩ := ne0 (S.B u) (by omega)
      simp [e, e', p, q, I.i11' u hu k]
  · intro u hu k
    rw [h.B]
    rcases kind u with e | e | ⟨e, e'⟩
    · rw [e, ow] at k; cases k
    · subst e; rw [bx]; exact ⟨[], ⟨.nil u, by simp, .one u, rfl, by simp⟩, by simp⟩
    · obtain ⟨a, b, c, d⟩ := oth u e e'
      rw [b] at k
      obtain ⟨q, sq, hq⟩ := I.i12 u hu k
      refine ⟨q, hs sq, fun t ht => ?_⟩
      obtain ⟨i, j, l⟩ := hq t ht
      refine ⟨i, by rw [h.outer]; simp [j], by rw [h.B]; exact l⟩
  · intro u r hu k
    rcases kind u with e | e | ⟨e, e'⟩
    · rw [e, rw'] at k; exact I.i13 v r hv k
    · rw [e, rx] at k; exact I.i13 v r hv k
    · rw [(oth u e e').2.2.2] at k; exact I.i13 u r hu k
end
end Gar

namespace Gar

theorem nodup_len_le {α : Type} [DecidableEq α] : ∀ (l t : List α), l.Nodup → (∀ x ∈ l, x ∈ t) → l.length ≤ t.length
  | [], _, _, _ => Nat.zero_le _
  | a :: l, t, hn, hs => by
    have ha : a ∈ t := hs a (by simp)
    have hn' := List.nodup_cons.1 hn
    have := nodup_len_le l (t.erase a) hn'.2 (fun x hx => (List.mem_erase_of_ne (fun e => hn'.1 (by subst e; exact hx))).2 (hs x (by simp [hx])))
    have h2 := List.length_erase_of_mem ha
    have h3 : 0 < t.length := List.length_pos_of_mem ha
    simp only [List.length_cons]; omega

theorem nodup_map_of_inj {α β : Type} (f : α → β) : ∀ (l : List α), l.Nodup → (∀ x ∈ l, ∀ y ∈ l, f x = f y → x = y) → (l.map f).Nodup
  | [], _, _ => by simp
  | a :: l, hn, hi => by
    have hn' := List.nodup_cons.1 hn
    simp only [List.map_cons, List.nodup_cons, List.mem_map, not_exists, not_and]
    refine ⟨fun x hx e => ?_, nodup_map_of_inj f l hn'.2 fun x hx y hy => hi x (by simp [hx]) y (by simp [hy])⟩
    have := hi x (by simp [hx]) a (by simp) e
    subst this; exact hn'.1 hx

/-- One list goes into another one, each place taken once at most. -/
theorem inj_len {α β : Type} [DecidableEq β] (f : α → β) (l : List α) (t : List β) (hn : l.Nodup) (hs : ∀ x ∈ l, f x ∈ t) (hi : ∀ x ∈ l, ∀ y ∈ l, f x = f y → x = y) : l.length ≤ t.length := by
  have := nodup_len_le (l.map f) t (nodup_map_of_inj f l hn hi) (by simpa using hs)
  simpa using this

/-- .. and if there are as many, each place is taken. -/
theorem inj_onto {α β : Type} [DecidableEq β] (f : α → β) (l : List α) (t : List β) (hn : l.Nodup) (hs : ∀ x ∈ l, f x ∈ t) (hi : ∀ x ∈ l, ∀ y ∈ l, f x = f y → x = y) (hl : t.length ≤ l.length) :
    ∀ y ∈ t, ∃ x ∈ l, f x = y := by
  intro y hy
  apply Classical.byContradiction
  intro hc
  have hs' : ∀ x ∈ l, f x ∈ t.erase y := fun x hx => (List.mem_erase_of_ne (fun e => hc ⟨x, hx, e⟩)).2 (hs x hx)
  have h1 := inj_len f l (t.erase y) hn hs' hi
  have h2 := List.length_erase_of_mem hy
  have h3 : 0 < t.length := List.length_pos_of_mem hy
  omega

/-- What is paired off is even. -/
theorem even_of_paired (f : Nat → Nat) : ∀ (k : Nat) (l : List Nat), l.length ≤ k → l.Nodup → (∀ x ∈ l, f x ∈ l ∧ f (f x) = x ∧ f x ≠ x) → l.length % 2 = 0 := by
  intro k
  induction k with
  | zero => intro l h _ _; have : l.length = 0 := by omega
            rw [this]
  | succ k ih =>
    intro l hk hn hp
    cases l with
    | nil => rfl
    | cons a l =>
      have hn' := List.nodup_cons.1 hn
      obtain ⟨p1, p2, p3⟩ := hp a (by simp)
      have hfa : f a ∈ l := by
        rcases List.mem_cons.1 p1 with e | e
        · exact absurd e p3
        · exact e
      have hlen := List.length_erase_of_mem hfa
      have hpos : 0 < l.length := List.length_pos_of_mem hfa
      simp only [List.length_cons] at hk ⊢
      have := ih (l.erase (f a)) (by omega) (hn'.2.erase _) (fun x hx => by
        have hxl := List.mem_of_mem_erase hx
        have hxf : x ≠ f a := fun e => by subst e; exact (List.Nodup.not_mem_erase hn'.2) hx
        obtain ⟨q1, q2, q3⟩ := hp x (by simp [hxl])
        have hfx : f x ≠ a := fun e => hxf (by rw [← q2, e])
        have hfx2 : f x ≠ f a := fun e => by
          have : x = a := by rw [← q2, e, p2]
          subst this; exact hn'.1 hxl
        have : f x ∈ l := by
          rcases List.mem_cons.1 q1 with e | e
          · exact absurd e hfx
          · exact e
        exact ⟨(List.mem_erase_of_ne hfx2).2 this, q2, q3⟩)
      omega

/-- Hanging together within what is let in. -/
inductive Conn (adj : Nat → Nat → Prop) (P : Nat → Prop) : Nat → Nat → Prop
  | refl (u : Nat) : P u → Conn adj P u u
  | tail {u v w : Nat} : Conn adj P u v → adj v w → P w → Conn adj P u w

theorem Conn.left {adj : Nat → Nat → Prop} {P : Nat → Prop} {u v : Nat} (h : Conn adj P u v) : P u := by
  induction h with
  | refl h => exact h
  | tail _ _ _ ih => exact ih
theorem Conn.right {adj : Nat → Nat → Prop} {P : Nat → Prop} {u v : Nat} (h : Conn adj P u v) : P v := by cases h <;> assumption
theorem Conn.trans {adj : Nat → Nat → Prop} {P : Nat → Prop} {u v w : Nat} (h : Conn adj P u v) (k : Conn adj P v w) : Conn adj P u w := by
  induction k with
  | refl _ => exact h
  | tail _ h1 h2 ih => exact .tail ih h1 h2
theorem Conn.symm {adj : Nat → Nat → Prop} {P : Nat → Prop} (hs : ∀ u v, adj u v → adj v u) {u v : Nat} (h : Conn adj P u v) : Conn adj P v u := by
  induction h with
  | refl h => exact .refl _ h
  | tail h1 h2 h3 ih => exact Conn.trans (.tail (.refl _ h3) (hs _ _ h2) h1.right) ih
theorem Conn.mono {adj : Nat → Nat → Prop} {P Q : Nat → Prop} (hpq : ∀ u, P u → Q u) {u v : Nat} (h : Conn adj P u v) : Conn adj Q u v := by
  induction h with
  | refl h => exact .refl _ (hpq _ h)
  | tail _ h2 h3 ih => exact .tail ih h2 (hpq _ h3)
/-- What an edge does not leave, hanging together does not leave. -/
theorem Conn.stays {adj : Nat → Nat → Prop} {P Q : Nat → Prop} (hq : ∀ u v, P u → P v → Q u → adj u v → Q v) {u v : Nat} (h : Conn adj P u v) (hu : Q u) : Q v := by
  induction h with
  | refl _ => exact hu
  | tail h1 h2 h3 ih => exact hq _ _ h1.right h3 ih h2

/-- The pieces of what is let in, in their order. -/
structure Pieces (n : Nat) (adj : Nat → Nat → Prop) (P : Nat → Prop) (L : List (List Nat)) : Prop where
  lt : ∀ u, P u → u < n
  ne : ∀ l ∈ L, ∃ u t, l = u :: t
  rises : ∀ l ∈ L, l.Pairwise (· < ·)
  mem : ∀ l ∈ L, ∀ u ∈ l, P u ∧ ∀ v, v ∈ l ↔ Conn adj P u v
  all : ∀ u, P u → ∃ l ∈ L, u ∈ l
  heads : (L.map (fun l => l.headD 0)).Pairwise (· < ·)

theorem nodup_of_rises {l : List Nat} (h : l.Pairwise (· < ·)) : l.Nodup := h.imp fun h e => by omega

theorem Pieces.nodup {n : Nat} {adj : Nat → Nat → Prop} {P : Nat → Prop} {L : List (List Nat)} (h : Pieces n adj P L) : L.Nodup := by
  have := h.heads
  rw [List.pairwise_map] at this
  exact this.imp fun h e => by subst e; omega

theorem Pieces.eq_of {n : Nat} {adj : Nat → Nat → Prop} {P : Nat → Prop} {L : List (List Nat)} (h : Pieces n adj P L) {l k : List Nat} (hl : l ∈ L) (hk : k ∈ L) {u : Nat} (hul : u ∈ l) (huk : u ∈ k) : l = k := by
  have e : ∀ v, v ∈ l ↔ v ∈ k := fun v => by rw [(h.mem l hl u hul).2 v, (h.mem k hk u huk).2 v]
  obtain ⟨a, s, rfl⟩ := h.ne l hl
  obtain ⟨b, t, rfl⟩ := h.ne k hk
  have hab : a = b := by
    have h1 := (e a).1 (by simp)
    have h2 := (e b).2 (by simp)
    have r1 := List.pairwise_cons.1 (h.rises _ hl)
    have r2 := List.pairwise_cons.1 (h.rises _ hk)
    rcases List.mem_cons.1 h1 with q | q
    · exact q
    · rcases List.mem_cons.1 h2 with q' | q'
      · exact q'.symm
      · have := r1.1 _ q'; have := r2.1 _ q; omega
  subst hab
  -- the same head: the same list
  have hL := h.nodup
  have hh := h.heads
  rw [List.pairwise_map] at hh
  apply Classical.byContradiction
  intro hne
  have key : ∀ (L : List (List Nat)), L.Pairwise (fun x y => x.headD 0 < y.headD 0) → ∀ l ∈ L, ∀ k ∈ L, l.headD 0 = k.headD 0 → l = k := by
    intro L hp
    induction hp with
    | nil => intro l hl; cases hl
    | @cons x xs h1 _ ih =>
      intro l hl k hk e
      rcases List.mem_cons.1 hl with hl | hl <;> rcases List.mem_cons.1 hk with hk | hk
      · rw [hl, hk]
      · have := h1 k hk; rw [hl] at e; omega
      · have := h1 l hl; rw [hk] at e; omega
      · exact ih l hl k hk e
  exact hne (key L hh _ hl _ hk (by simp))

def oddOf (L : List (List Nat)) : List (List Nat) := L.filter (fun l => l.length % 2 == 1)

theorem sum_odd (L : List (List Nat)) : (L.map (fun l => l.length % 2)).sum = (oddOf L).length := by
  induction L with
  | nil => rfl
  | cons l L ih =>
    simp only [List.map_cons, List.sum_cons, oddOf, List.filter_cons] at *
    rcases Nat.mod_two_eq_zero_or_one l.length with e | e <;> simp [e, ih] <;> omega

def freeOf (n : Nat) (mate : Nat → Option Nat) : List Nat := (List.range n).filter (fun v => (mate v).isNone)
def setOf (n : Nat) (T : Nat → Bool) : List Nat := (List.range n).filter T

theorem mem_freeOf {n : Nat} {mate : Nat → Option Nat} {v : Nat} : v ∈ freeOf n mate ↔ v < n ∧ mate v = none := by simp [freeOf]
theorem mem_setOf {n : Nat} {T : Nat → Bool} {v : Nat} : v ∈ setOf n T ↔ v < n ∧ T v = true := by simp [setOf]
theorem nodup_range (n : Nat) : (List.range n).Nodup := List.nodup_range
theorem nodup_freeOf (n : Nat) (mate : Nat → Option Nat) : (freeOf n mate).Nodup := (nodup_range n).filter _
theorem nodup_setOf (n : Nat) (T : Nat → Bool) : (setOf n T).Nodup := (nodup_range n).filter _

section
variable {n : Nat} {adj : Nat → Nat → Prop} {mate : Nat → Option Nat}

/-- Each odd piece has a vertex without a mate, or one whose mate was taken out; which: different for each. -/
theorem odd_goes (G : Gr n adj) (M : Mat n adj mate) {T : Nat → Bool} {L : List (List Nat)} (hL : Pieces n adj (fun u => u < n ∧ T u = false) L) :
    ∃ f : List Nat → Nat, (∀ l ∈ oddOf L, f l ∈ freeOf n mate ++ (setOf n T).map (n + ·)) ∧ (∀ l ∈ oddOf L, ∀ k ∈ oddOf L, f l = f k → l = k) ∧
      (∀ l ∈ oddOf L, ∀ u, f l = u → u < n → u ∈ l ∧ mate u = none) ∧ (∀ l ∈ oddOf L, ∀ a, f l = n + a → ∃ u ∈ l, mate u = some a ∧ T a = true) := by
  have key : ∀ l, l ∈ oddOf L → ∃ c, (∃ u ∈ l, mate u = none ∧ c = u) ∨ (∃ u ∈ l, ∃ a, mate u = some a ∧ T a = true ∧ c = n + a) := by
    intro l hl
    obtain ⟨hlL, hodd⟩ := List.mem_filter.1 hl
    have hodd : l.length % 2 = 1 := by simpa using hodd
    apply Classical.byContradiction
    intro hc
    have h0 : ∀ u ∈ l, ∃ w, mate u = some w ∧ w ∈ l := by
      intro u hu
      cases hm : mate u with
      | none => exact absurd ⟨u, .inl ⟨u, hu, hm, rfl⟩⟩ hc
      | some w =>
        refine ⟨w, rfl, ?_⟩
        cases hT : T w with
        | true => exact absurd ⟨n + w, .inr ⟨u, hu, w, hm, hT, rfl⟩⟩ hc
        | false =>
          obtain ⟨h1, h2⟩ := hL.mem l hlL u hu
          exact (h2 w).2 (.tail (.refl _ h1) (M.adj _ _ hm) ⟨(M.lt _ _ hm).2, hT⟩)
    have := even_of_paired (fun u => (mate u).getD 0) _ l (Nat.le_refl _) (nodup_of_rises (hL.rises l hlL)) (fun u hu => by
      obtain ⟨w, hm, hw⟩ := h0 u hu
      simp only [hm, Option.getD_some]
      refine ⟨hw, by rw [M.sym _ _ hm]; rfl, fun e => ?_⟩
      subst e; exact G.irr _ (M.adj _ _ hm))
    omega
  refine ⟨fun l => if h : l ∈ oddOf L then (key l h).choose else 0, ?_, ?_, ?_, ?_⟩
  · intro l hl
    simp only [hl, dite_true]
    have hlL := (List.mem_filter.1 hl).1
    rcases (key l hl).choose_spec with ⟨u, hu, hm, e⟩ | ⟨u, hu, a, hm, hT, e⟩
    · rw [e]; exact List.mem_append_left _ (mem_freeOf.2 ⟨((hL.mem l hlL u hu).1).1, hm⟩)
    · rw [e]; exact List.mem_append_right _ (List.mem_map.2 ⟨a, mem_setOf.2 ⟨(M.lt _ _ hm).2, hT⟩, rfl⟩)
  · intro l hl k hk e
    simp only [hl, hk, dite_true] at e
    have hlL := (List.mem_filter.1 hl).1
    have hkL := (List.mem_filter.1 hk).1
    rcases (key l hl).choose_spec with ⟨u, hu, hm, e1⟩ | ⟨u, hu, a, hm, hT, e1⟩ <;> rcases (key k hk).choose_spec with ⟨u', hu', hm', e2⟩ | ⟨u', hu', a', hm', hT', e2⟩
    · rw [e1, e2] at e; subst e; exact hL.eq_of hlL hkL hu hu'
    · rw [e1, e2] at e; have := ((hL.mem l hlL u hu).1).1; omega
    · rw [e1, e2] at e; have := ((hL.mem k hkL u' hu').1).1; omega
    · rw [e1, e2] at e
      have : a = a' := by omega
      subst this
      have h1 := M.sym _ _ hm
      have h2 := M.sym _ _ hm'
      rw [h1] at h2; injection h2 with h2; subst h2
      exact hL.eq_of hlL hkL hu hu'
  · intro l hl u e hu
    simp only [hl, dite_true] at e
    rcases (key l hl).choose_spec with ⟨u', hu', hm, e1⟩ | ⟨u', hu', a, hm, hT, e1⟩
    · rw [e1] at e; subst e; exact ⟨hu', hm⟩
    · rw [e1] at e; omega
  · intro l hl a e
    simp only [hl, dite_true] at e
    have hlL := (List.mem_filter.1 hl).1
    rcases (key l hl).choose_spec with ⟨u', hu', hm, e1⟩ | ⟨u', hu', a', hm, hT, e1⟩
    · rw [e1] at e; have := ((hL.mem l hlL u' hu').1).1; omega
    · rw [e1] at e; have : a' = a := by omega
      subst this; exact ⟨u', hu', hm, hT⟩

theorem odd_places_nodup (n : Nat) (mate : Nat → Option Nat) (T : Nat → Bool) : (freeOf n mate ++ (setOf n T).map (n + ·)).Nodup := by
  refine List.nodup_append.2 ⟨nodup_freeOf n mate, nodup_map_of_inj _ _ (nodup_setOf n T) (fun x _ y _ e => by omega), ?_⟩
  intro a ha b hb e
  subst e
  have := (mem_freeOf.1 ha).1
  obtain ⟨c, _, e⟩ := List.mem_map.1 hb
  omega

theorem oddOf_nodup {P : Nat → Prop} {L : List (List Nat)} (hL : Pieces n adj P L) : (oddOf L).Nodup := hL.nodup.filter _

/-- NO SET LACKS MORE THAN A MATCHING LEAVES. -/
theorem weak (G : Gr n adj) (M : Mat n adj mate) {T : Nat → Bool} {L : List (List Nat)} (hL : Pieces n adj (fun u => u < n ∧ T u = false) L) :
    (oddOf L).length ≤ (freeOf n mate).length + (setOf n T).length := by
  obtain ⟨f, h1, h2, _, _⟩ := odd_goes G M hL
  have := inj_len f (oddOf L) _ (oddOf_nodup hL) h1 h2
  simpa using this

/-- .. and where it lacks just that, each vertex without a mate is in an odd piece, and each that was taken out has its mate in one, a different one each. -/
theorem tight (G : Gr n adj) (M : Mat n adj mate) {T : Nat → Bool} {L : List (List Nat)} (hL : Pieces n adj (fun u => u < n ∧ T u = false) L)
    (he : (freeOf n mate).length + (setOf n T).length ≤ (oddOf L).length) :
    (∀ u, u < n → mate u = none → ∃ l ∈ oddOf L, u ∈ l) ∧ (∀ a, a < n → T a = true → ∃ l ∈ oddOf L, ∃ u ∈ l, mate u = some a) := by
  obtain ⟨f, h1, h2, h3, h4⟩ := odd_goes G M hL
  have h5 := inj_onto f (oddOf L) _ (oddOf_nodup hL) h1 h2 (by simpa using he)
  constructor
  · intro u hu hm
    obtain ⟨l, hl, e⟩ := h5 u (List.mem_append_left _ (mem_freeOf.2 ⟨hu, hm⟩))
    exact ⟨l, hl, (h3 l hl u e hu).1⟩
  · intro a ha hT
    obtain ⟨l, hl, e⟩ := h5 (n + a) (List.mem_append_right _ (List.mem_map.2 ⟨a, mem_setOf.2 ⟨ha, hT⟩, rfl⟩))
    obtain ⟨u, hu, hm, _⟩ := h4 l hl a e
    exact ⟨l, hl, u, hu, hm⟩
end
end Gar

namespace Gar
section
variable {n : Nat} {adj : Nat → Nat → Prop} {mate : Nat → Option Nat} {S : St} {ord : Nat → Nat}

/-- Nothing is left to look at. -/
def Still (n : Nat) (adj : Nat → Nat → Prop) (mate : Nat → Option Nat) (S : St) : Prop :=
  ∀ v w, v < n → S.outer v = true → adj v w → mate v = some w ∨ (S.label w ≠ 0 ∧ (S.outer w = true → S.B w = S.B v))

def St.odd (S : St) (u : Nat) : Bool := S.label u == 2 && !S.outer u

theorem St.odd_eq {u : Nat} : S.odd u = true ↔ S.label u = 2 ∧ S.outer u = false := by simp [St.odd]

theorem Still.at_ (M : Mat n adj mate) (I : InvO n adj mate S ord) (hE : Still n adj mate S) {v w : Nat} (hv : v < n) (hw : w < n) (ho : S.outer v = true) (ha : adj v w) :
    S.odd w = true ∨ (S.outer w = true ∧ S.B w = S.B v) := by
  have hl := I.i1 w hw
  rcases hE v w hv ho ha with hm | ⟨h1, h2⟩
  · have hv1 := I.i1 v hv
    have hv0 := I.i2 v hv ho
    have hmw := M.sym _ _ hm
    rcases (by omega : S.label v = 1 ∨ S.label v = 2) with e | e
    · have hw2 := I.i6 v w hv e hm
      cases hwo : S.outer w with
      | false => exact .inl (St.odd_eq.2 ⟨hw2, hwo⟩)
      | true => exact .inr ⟨rfl, ((I.i10 w v hw hw2 hmw).1 hwo).1⟩
    · obtain ⟨x, a1, a2, _⟩ := I.i5 v hv e
      rw [hm] at a1; injection a1 with a1; subst a1
      exact .inr ⟨I.i2' w hw a2, ((I.i10 v w hv e hm).1 ho).1.symm⟩
  · cases hwo : S.outer w with
    | true => exact .inr ⟨rfl, h2 hwo⟩
    | false =>
      have : S.label w ≠ 1 := fun e => by rw [I.i2' w hw e] at hwo; cases hwo
      exact .inl (St.odd_eq.2 ⟨by omega, hwo⟩)

theorem Alt.conn {P : Nat → Prop} (M : Mat n adj mate) {l : List Nat} (h : Alt adj mate l) : (∀ x ∈ l, P x) → ∀ v b, l.head? = some v → l.getLast? = some b → Conn adj P v b := by
  induction h with
  | one v => intro hp a b h1 h2; simp at h1 h2; subst h1; subst h2; exact .refl _ (hp _ (by simp))
  | @cons v m u l h1 h2 _ ih =>
    intro hp a b h3 h4
    simp at h3; subst h3
    have := ih (fun x hx => hp x (by simp [hx])) u b (by simp) (by simpa using h4)
    exact ((Conn.refl v (hp v (by simp))).tail (M.adj _ _ h1) (hp m (by simp))).tail h2 (hp u (by simp)) |>.trans this

/-- A blossom hangs together. -/
theorem InvO.conn (M : Mat n adj mate) (I : InvO n adj mate S ord) {v : Nat} (hv : v < n) (ho : S.outer v = true) : Conn adj (fun u => u < n ∧ S.outer u = true) v (S.B v) := by
  obtain ⟨q, sq, hq⟩ := I.i12 v hv ho
  have hb := IsBase.of I hv ho
  refine sq.alt.conn M (fun x hx => ?_) v _ sq.head (by simp)
  rcases List.mem_append.1 hx with h | h
  · exact ⟨(hq x h).1, (hq x h).2.1⟩
  · simp at h; subst h; exact ⟨hb.1, hb.2.1⟩

theorem Still.stays (M : Mat n adj mate) (I : InvO n adj mate S ord) (hE : Still n adj mate S) {u v : Nat} (h : Conn adj (fun u => u < n ∧ S.odd u = false) u v) (ho : S.outer u = true) :
    S.outer v = true ∧ S.B v = S.B u := by
  refine h.stays (Q := fun v => S.outer v = true ∧ S.B v = S.B u) ?_ ⟨ho, rfl⟩
  rintro a b ⟨ha, _⟩ ⟨hb, hb'⟩ ⟨h1, h2⟩ hab
  rcases hE.at_ M I ha hb h1 hab with h | h
  · rw [hb'] at h; cases h
  · exact ⟨h.1, by rw [h.2, h2]⟩

theorem InvO.joined (G : Gr n adj) (M : Mat n adj mate) (I : InvO n adj mate S ord) {u v : Nat} (hu : u < n) (hv : v < n) (ho : S.outer u = true) (hvo : S.outer v = true) (e : S.B u = S.B v) :
    Conn adj (fun u => u < n ∧ S.outer u = true) u v :=
  (I.conn M hu ho).trans (by rw [e]; exact (I.conn M hv hvo).symm G.sym)

theorem odd_of_outer {u : Nat} (h : S.outer u = true) : S.odd u = false := by simp [St.odd, h]

/-- In a blossom all but the base are paired off. -/
theorem InvO.paired (M : Mat n adj mate) (I : InvO n adj mate S ord) {v : Nat} (hv : v < n) (ho : S.outer v = true) (hne : v ≠ S.B v) :
    ∃ w, mate v = some w ∧ w < n ∧ S.outer w = true ∧ S.B w = S.B v ∧ w ≠ S.B v := by
  obtain ⟨q, sq, hq⟩ := I.i12 v hv ho
  have hb := IsBase.of I hv ho
  have hm : ∃ w, mate v = some w := by
    have h1 := sq.head
    have h2 := sq.alt
    cases q with
    | nil => simp at h1; exact absurd h1.symm hne
    | cons a t =>
      simp at h1; subst h1
      cases t with
      | nil => cases h2
      | cons b t =>
        rw [List.cons_append, List.cons_append] at h2
        cases t with
        | nil => cases h2 with | cons e _ _ => exact ⟨_, e⟩
        | cons c t => cases h2 with | cons e _ _ => exact ⟨_, e⟩
  obtain ⟨w, hm⟩ := hm
  have hw := (M.lt _ _ hm).2
  have hmw := M.sym _ _ hm
  have h1 := I.i1 v hv
  have h2 := I.i2 v hv ho
  refine ⟨w, hm, hw, ?_⟩
  rcases (by omega : S.label v = 1 ∨ S.label v = 2) with e | e
  · have hw2 := I.i6 v w hv e hm
    obtain ⟨c1, c2⟩ := I.i10 w v hw hw2 hmw
    cases hwo : S.outer w with
    | false => exact absurd (c2 hwo).symm hne
    | true => exact ⟨rfl, (c1 hwo).1, fun e' => by have := hb.label I; rw [← e', hw2] at this; cases this⟩
  · obtain ⟨x, a1, a2, _⟩ := I.i5 v hv e
    rw [hm] at a1; injection a1 with a1; subst a1
    obtain ⟨c1, c2⟩ := (I.i10 v w hv e hm).1 ho
    exact ⟨I.i2' w hw a2, c1.symm, fun e' => c2 (by rw [← c1]; exact e'.symm)⟩

theorem InvO.base_of_free (I : InvO n adj mate S ord) (M : Mat n adj mate) {v : Nat} (hv : v < n) (hm : mate v = none) : S.outer v = true ∧ S.B v = v := by
  have ho := I.i2' v hv (I.i4 v hv hm).1
  refine ⟨ho, ?_⟩
  apply Classical.byContradiction
  intro e
  obtain ⟨w, h, _⟩ := I.paired M hv ho (Ne.symm e)
  rw [hm] at h; cases h

/-- What the pieces are, where the odd vertices are taken out: blossoms, that are odd; and others, that are even. -/
theorem Still.oddPieces (G : Gr n adj) (M : Mat n adj mate) (I : InvO n adj mate S ord) (hE : Still n adj mate S) {L : List (List Nat)} (hL : Pieces n adj (fun u => u < n ∧ S.odd u = false) L) {l : List Nat} (hl : l ∈ L) :
    (l.length % 2 = 1 ↔ ∃ u ∈ l, S.outer u = true) := by
  constructor
  · intro hodd
    apply Classical.byContradiction
    intro hc
    have h0 : ∀ u ∈ l, S.outer u = false := fun u hu => by
      cases e : S.outer u with
      | false => rfl
      | true => exact absurd ⟨u, hu, e⟩ hc
    have := even_of_paired (fun u => (mate u).getD 0) _ l (Nat.le_refl _) (nodup_of_rises (hL.rises l hl)) (fun u hu => by
      obtain ⟨⟨k1, k2⟩, k3⟩ := hL.mem l hl u hu
      have hlu : S.label u = 0 := by
        have a := I.i1 u k1
        have b : S.label u ≠ 1 := fun e => by have := I.i2' u k1 e; rw [h0 u hu] at this; cases this
        have c : S.label u ≠ 2 := fun e => by simp [St.odd, e, h0 u hu] at k2
        omega
      obtain ⟨w, hm⟩ := I.mateThere k1 hlu
      have hw0 := I.mateOut M hlu hm
      have hw := (M.lt _ _ hm).2
      simp only [hm, Option.getD_some]
      refine ⟨(k3 w).2 (.tail (.refl _ ⟨k1, k2⟩) (M.adj _ _ hm) ⟨hw, by simp [St.odd, hw0]⟩), by rw [M.sym _ _ hm]; rfl, fun e => ?_⟩
      subst e; exact G.irr _ (M.adj _ _ hm))
    omega
  · rintro ⟨u, hu, ho⟩
    obtain ⟨⟨k1, k2⟩, k3⟩ := hL.mem l hl u hu
    have hb := IsBase.of I k1 ho
    have hmem : ∀ v, v ∈ l ↔ (v < n ∧ S.outer v = true ∧ S.B v = S.B u) := by
      intro v
      rw [k3 v]
      constructor
      · intro h; obtain ⟨a, b⟩ := hE.stays M I h ho; exact ⟨h.right.1, a, b⟩
      · rintro ⟨a, b, c⟩
        exact (I.joined G M k1 a ho b c.symm).mono fun x hx => ⟨hx.1, odd_of_outer hx.2⟩
    have hbl : S.B u ∈ l := (hmem _).2 ⟨hb.1, hb.2.1, hb.2.2⟩
    have hnd := nodup_of_rises (hL.rises l hl)
    have hlen := List.length_erase_of_mem hbl
    have hpos : 0 < l.length := List.length_pos_of_mem hbl
    have := even_of_paired (fun v => (mate v).getD 0) _ (l.erase (S.B u)) (Nat.le_refl _) (hnd.erase _) (fun v hv => by
      have hvl := List.mem_of_mem_erase hv
      have hvb : v ≠ S.B u := fun e => by subst e; exact (List.Nodup.not_mem_erase hnd) hv
      obtain ⟨a, b, c⟩ := (hmem v).1 hvl
      obtain ⟨w, h1, h2, h3, h4, h5⟩ := I.paired M a b (by rw [c]; exact hvb)
      simp only [h1, Option.getD_some]
      refine ⟨(List.mem_erase_of_ne (by rw [← c]; exact h5)).2 ((hmem w).2 ⟨h2, h3, by rw [h4, c]⟩), by rw [M.sym _ _ h1]; rfl, fun e => ?_⟩
      subst e; exact G.irr _ (M.adj _ _ h1))
    omega

/-- THE ODD VERTICES LACK AS MANY AS THE MATCHING LEAVES. -/
theorem Still.lacks (G : Gr n adj) (M : Mat n adj mate) (I : InvO n adj mate S ord) (hE : Still n adj mate S) {L : List (List Nat)} (hL : Pieces n adj (fun u => u < n ∧ S.odd u = false) L) :
    (oddOf L).length = (freeOf n mate).length + (setOf n S.odd).length := by
  refine Nat.le_antisymm (weak G M hL) ?_
  -- a base for each place
  have hbase : ∀ c ∈ freeOf n mate ++ (setOf n S.odd).map (n + ·), ∃ b, IsBase n S b ∧ ((c < n ∧ b = c) ∨ ∃ a, c = n + a ∧ mate a = some b) := by
    intro c hc
    rcases List.mem_append.1 hc with h | h
    · obtain ⟨h1, h2⟩ := mem_freeOf.1 h
      obtain ⟨h3, h4⟩ := I.base_of_free M h1 h2
      exact ⟨c, ⟨h1, h3, h4⟩, .inl ⟨h1, rfl⟩⟩
    · obtain ⟨a, ha, rfl⟩ := List.mem_map.1 h
      obtain ⟨h1, h2⟩ := mem_setOf.1 ha
      obtain ⟨h3, h4⟩ := St.odd_eq.1 h2
      obtain ⟨x, h5, h6, _⟩ := I.i5 a h1 h3
      have hx := (M.lt _ _ h5).2
      exact ⟨x, ⟨hx, I.i2' x hx h6, (I.i10 a x h1 h3 h5).2 h4⟩, .inr ⟨a, rfl, h5⟩⟩
  have hpiece : ∀ b, IsBase n S b → ∃ l ∈ oddOf L, b ∈ l := by
    intro b hb
    obtain ⟨l, hl, hbl⟩ := hL.all b ⟨hb.1, odd_of_outer hb.2.1⟩
    refine ⟨l, List.mem_filter.2 ⟨hl, ?_⟩, hbl⟩
    have := (hE.oddPieces G M I hL hl).2 ⟨b, hbl, hb.2.1⟩
    simp [this]
  have key : ∀ c, c ∈ freeOf n mate ++ (setOf n S.odd).map (n + ·) → ∃ l, l ∈ oddOf L ∧ ∃ b ∈ l, IsBase n S b ∧ ((c < n ∧ b = c) ∨ ∃ a, c = n + a ∧ mate a = some b) := by
    intro c hc
    obtain ⟨b, h1, h2⟩ := hbase c hc
    obtain ⟨l, h3, h4⟩ := hpiece b h1
    exact ⟨l, h3, b, h4, h1, h2⟩
  have := inj_len (fun c => if h : c ∈ freeOf n mate ++ (setOf n S.odd).map (n + ·) then (key c h).choose else []) _ (oddOf L) (odd_places_nodup n mate S.odd)
    (fun c hc => by simp only [hc, dite_true]; exact (key c hc).choose_spec.1)
    (fun c hc d hd e => by
      simp only [hc, hd, dite_true] at e
      obtain ⟨h1, b, h2, h3, h4⟩ := (key c hc).choose_spec
      obtain ⟨h1', b', h2', h3', h4'⟩ := (key d hd).choose_spec
      rw [e] at h2
      have hl := (List.mem_filter.1 h1').1
      have hc' := ((hL.mem _ hl b h2).2 b').1 h2'
      have := (hE.stays M I hc' h3.2.1).2
      rw [h3.2.2, h3'.2.2] at this
      subst this
      rcases h4 with ⟨p1, p2⟩ | ⟨a, p1, p2⟩ <;> rcases h4' with ⟨q1, q2⟩ | ⟨a', q1, q2⟩
      · rw [← p2, ← q2]
      · exfalso
        have hf := (mem_freeOf.1 ((List.mem_append.1 hc).resolve_right (fun h => by obtain ⟨x, _, hx⟩ := List.mem_map.1 h; omega))).2
        have := M.sym _ _ q2
        rw [p2, hf] at this; cases this
      · exfalso
        have hf := (mem_freeOf.1 ((List.mem_append.1 hd).resolve_right (fun h => by obtain ⟨x, _, hx⟩ := List.mem_map.1 h; omega))).2
        have := M.sym _ _ p2
        rw [q2, hf] at this; cases this
      · have h1 := M.sym _ _ p2
        have h2 := M.sym _ _ q2
        rw [h1] at h2; injection h2 with h2; rw [p1, q1, h2])
  simpa using this

/-- .. so no matching leaves fewer. -/
theorem Still.most (G : Gr n adj) (M : Mat n adj mate) (I : InvO n adj mate S ord) (hE : Still n adj mate S) {L : List (List Nat)} (hL : Pieces n adj (fun u => u < n ∧ S.odd u = false) L)
    {mate' : Nat → Option Nat} (M' : Mat n adj mate') : (freeOf n mate).length ≤ (freeOf n mate').length := by
  have h1 := hE.lacks G M I hL
  have h2 := weak G M' hL
  omega

/-- A matching that leaves as few leaves out outer vertices alone. -/
theorem Still.leaves (G : Gr n adj) (M : Mat n adj mate) (I : InvO n adj mate S ord) (hE : Still n adj mate S) {L : List (List Nat)} (hL : Pieces n adj (fun u => u < n ∧ S.odd u = false) L)
    {mate' : Nat → Option Nat} (M' : Mat n adj mate') (he : (freeOf n mate').length ≤ (freeOf n mate).length) {u : Nat} (hu : u < n) (hm : mate' u = none) : S.outer u = true := by
  have h1 := hE.lacks G M I hL
  obtain ⟨l, hl, hul⟩ := (tight G M' hL (by omega)).1 u hu hm
  obtain ⟨hlL, hodd⟩ := List.mem_filter.1 hl
  obtain ⟨v, hv, hvo⟩ := (hE.oddPieces G M I hL hlL).1 (by simpa using hodd)
  exact (hE.stays M I (((hL.mem l hlL v hv).2 u).1 hul) hvo).1
end

/-- Each two of a path, from its first on, become each other's mates. -/
def Turned : List Nat → (Nat → Option Nat) → Prop
  | a :: b :: t, g => g a = some b ∧ g b = some a ∧ Turned t g
  | [], _ => True
  | [_], _ => False

/-- Each two are joined. -/
def PairAdj (adj : Nat → Nat → Prop) : List Nat → Prop
  | a :: b :: t => adj a b ∧ PairAdj adj t
  | [] => True
  | [_] => False

section
variable {n : Nat} {adj : Nat → Nat → Prop} {mate : Nat → Option Nat}

theorem Turned.pair : ∀ {p : List Nat} {g : Nat → Option Nat}, PairAdj adj p → Turned p g → (∀ u v, adj u v → adj v u) → ∀ v ∈ p, ∃ w ∈ p, g v = some w ∧ g w = some v ∧ adj v w
  | [], _, _, _, _, v, hv => by cases hv
  | [_], _, h, _, _, _, _ => by cases h
  | a :: b :: t, g, h1, h2, hs, v, hv => by
    obtain ⟨p1, p2⟩ := h1
    obtain ⟨q1, q2, q3⟩ := h2
    rcases List.mem_cons.1 hv with rfl | hv
    · exact ⟨b, by simp, q1, q2, p1⟩
    · rcases List.mem_cons.1 hv with rfl | hv
      · exact ⟨a, by simp, q2, q1, hs _ _ p1⟩
      · obtain ⟨w, w1, w2, w3, w4⟩ := Turned.pair p2 q3 hs v hv
        exact ⟨w, by simp [w1], w2, w3, w4⟩

/-- A PATH TURNED. -/
theorem Turned.mat (G : Gr n adj) (M : Mat n adj mate) {p : List Nat} {g : Nat → Option Nat} (h1 : PairAdj adj p) (h2 : Turned p g) (h3 : ∀ u, u ∉ p → g u = mate u)
    (h4 : ∀ u ∈ p, ∀ v, mate u = some v → v ∈ p) : Mat n adj g := by
  have key : ∀ v w, g v = some w → g w = some v ∧ adj v w := by
    intro v w e
    by_cases hv : v ∈ p
    · obtain ⟨w', a, b, c, d⟩ := Turned.pair h1 h2 G.sym v hv
      rw [e] at b; injection b with b; subst b; exact ⟨c, d⟩
    · rw [h3 v hv] at e
      have hw : w ∉ p := fun hw => hv (h4 w hw v (M.sym _ _ e))
      exact ⟨by rw [h3 w hw]; exact M.sym _ _ e, M.adj _ _ e⟩
  exact ⟨fun v w e => G.lt _ _ (key v w e).2, fun v w e => (key v w e).1, fun v w e => (key v w e).2⟩

theorem Turned.fewer (G : Gr n adj) {p : List Nat} {g : Nat → Option Nat} (h1 : PairAdj adj p) (h2 : Turned p g) (h3 : ∀ u, u ∉ p → g u = mate u) {r : Nat} (hr : r ∈ p) (hrn : r < n) (hm : mate r = none) :
    (freeOf n g).length < (freeOf n mate).length := by
  have hrf : r ∈ freeOf n mate := mem_freeOf.2 ⟨hrn, hm⟩
  have hgp : ∀ u ∈ p, g u ≠ none := fun u hu e => by
    obtain ⟨w, _, b, _⟩ := Turned.pair h1 h2 G.sym u hu
    rw [e] at b; cases b
  have := nodup_len_le (freeOf n g) ((freeOf n mate).erase r) (nodup_freeOf n g) (fun x hx => by
    obtain ⟨a, b⟩ := mem_freeOf.1 hx
    have hxp : x ∉ p := fun h => hgp x h b
    refine (List.mem_erase_of_ne (fun e => hxp (by subst e; exact hr))).2 (mem_freeOf.2 ⟨a, ?_⟩)
    rw [← h3 x hxp]; exact b)
  have h5 := List.length_erase_of_mem hrf
  have h6 : 0 < (freeOf n mate).length := List.length_pos_of_mem hrf
  omega

theorem Alt.pairAdj_tail {w : Nat} {t : List Nat} (h : Alt adj mate (w :: t)) : PairAdj adj t := by
  generalize hk : w :: t = k at h
  induction h generalizing w t with
  | one v => simp at hk; rw [hk.2]; trivial
  | cons _ h2 _ ih => simp at hk; obtain ⟨rfl, rfl⟩ := hk; exact ⟨h2, ih rfl⟩

theorem Alt.pairAdj_rev (G : Gr n adj) {l : List Nat} (h : Alt adj mate l) : ∀ v q, l.head? = some v → PairAdj adj (v :: q) → PairAdj adj (l.reverse ++ q) := by
  induction h with
  | one v => intro a q h1 h2; simp at h1; subst h1; simpa using h2
  | @cons v m u l _ h2 _ ih =>
    intro a q h3 h4
    simp at h3; subst h3
    have := ih u (m :: v :: q) (by simp) ⟨G.sym _ _ h2, h4⟩
    simpa using this

theorem Alt.closed (M : Mat n adj mate) {l : List Nat} (h : Alt adj mate l) : ∀ r, l.getLast? = some r → mate r = none → ∀ u ∈ l, ∀ v, mate u = some v → v ∈ l := by
  induction h with
  | one v => intro r h1 h2 u hu w e; simp at h1 hu; subst h1; subst hu; rw [h2] at e; cases e
  | @cons v m u l h1 h2 _ ih =>
    intro r h3 h4 x hx w e
    have i := ih r (by simpa using h3) h4
    rcases List.mem_cons.1 hx with rfl | hx
    · rw [h1] at e; injection e with e; subst e; simp
    · rcases List.mem_cons.1 hx with rfl | hx
      · rw [M.sym _ _ h1] at e; injection e with e; subst e; simp
      · have := i x hx w e; simp [this]

/-- The path between two trees, turned: the matching is larger. -/
theorem augmented (G : Gr n adj) (M : Mat n adj mate) {v w r s : Nat} {lv lw : List Nat} (h1 : Alt adj mate (lv ++ [r])) (h2 : Alt adj mate (lw ++ [s])) (hr : mate r = none) (hs : mate s = none) (hrn : r < n)
    (h3 : (lv ++ [r]).head? = some v) (h4 : (lw ++ [s]).head? = some w) (hvw : adj v w) {g : Nat → Option Nat} (h5 : Turned ((lv ++ [r]).reverse ++ (lw ++ [s])) g)
    (h6 : ∀ u, u ∉ (lv ++ [r]).reverse ++ (lw ++ [s]) → g u = mate u) : Mat n adj g ∧ (freeOf n g).length < (freeOf n mate).length := by
  obtain ⟨w', t, hw⟩ := h2.head_cons
  rw [hw] at h4; simp only [List.head?_cons, Option.some.injEq] at h4; subst h4
  have hp : PairAdj adj ((lv ++ [r]).reverse ++ (lw ++ [s])) := by
    refine h1.pairAdj_rev G v _ h3 ?_
    rw [hw]; rw [hw] at h2
    exact ⟨hvw, h2.pairAdj_tail⟩
  refine ⟨Turned.mat G M hp h5 h6 ?_, Turned.fewer G hp h5 h6 (r := r) (by simp) hrn hr⟩
  intro u hu x e
  rcases List.mem_append.1 hu with hu | hu
  · exact List.mem_append_left _ (List.mem_reverse.2 (h1.closed M r (by simp) hr u (List.mem_reverse.1 hu) x e))
  · exact List.mem_append_right _ (h2.closed M s (by simp) hs u hu x e)

/-- What turning is, as a function. -/
def turnF : List Nat → (Nat → Option Nat) → Nat → Option Nat
  | a :: b :: t, f => turnF t (fun u => if u = a then some b else if u = b then some a else f u)
  | _, f => f

theorem turnF_out : ∀ (p : List Nat) (f : Nat → Option Nat) (u : Nat), u ∉ p → turnF p f u = f u
  | [], _, _, _ => rfl
  | [_], _, _, _ => rfl
  | a :: b :: t, f, u, h => by
    simp only [List.mem_cons, not_or] at h
    rw [turnF, turnF_out t _ u h.2.2]; simp [h.1, h.2.1]

theorem turnF_turned : ∀ (p : List Nat) (f : Nat → Option Nat), p.Nodup → p.length % 2 = 0 → Turned p (turnF p f)
  | [], _, _, _ => trivial
  | [_], _, _, h => by simp at h
  | a :: b :: t, f, hn, hl => by
    simp only [List.nodup_cons, List.mem_cons, not_or] at hn
    refine ⟨?_, ?_, turnF_turned t _ hn.2.2 (by simp only [List.length_cons] at hl; omega)⟩
    · rw [turnF, turnF_out t _ a hn.1.2]; simp
    · rw [turnF, turnF_out t _ b hn.2.1]; simp [Ne.symm hn.1.1]

theorem Alt.odd_len {l : List Nat} (h : Alt adj mate l) : l.length % 2 = 1 := by
  induction h with
  | one v => rfl
  | cons _ _ _ ih => simp only [List.length_cons] at *; omega

/-- What a path of an even number of edges leads to from a vertex without a mate, some matching that is as large leaves out. -/
theorem Alt.left_out (G : Gr n adj) (M : Mat n adj mate) {v r : Nat} {l : List Nat} (h : Alt adj mate l) (hn : l.Nodup) (hv : l.head? = some v) (hl : l.getLast? = some r) (hr : mate r = none) (hlt : ∀ u ∈ l, u < n) :
    ∃ g, Mat n adj g ∧ g v = none ∧ (freeOf n g).length ≤ (freeOf n mate).length := by
  obtain ⟨v', t, ht⟩ := h.head_cons
  subst ht
  simp only [List.head?_cons, Option.some.injEq] at hv; subst hv
  have hnc := List.nodup_cons.1 hn
  have hp := h.pairAdj_tail
  have hlen := h.odd_len
  have ht := turnF_turned t mate hnc.2 (by simp only [List.length_cons] at hlen; omega)
  have hcl := h.closed M r hl hr
  have hout := turnF_out t mate
  refine ⟨fun u => if u = v' then none else turnF t mate u, ?_, by simp, ?_⟩
  · have key : ∀ a b, (if a = v' then none else turnF t mate a) = some b → (if b = v' then none else turnF t mate b) = some a ∧ adj a b := by
      intro a b e
      by_cases ha : a = v'
      · simp [ha] at e
      · simp only [ha, if_false] at e
        by_cases hat : a ∈ t
        · obtain ⟨w, q1, q2, q3, q4⟩ := Turned.pair hp ht G.sym a hat
          rw [e] at q2; injection q2 with q2; subst q2
          have : b ≠ v' := fun e => by subst e; exact hnc.1 q1
          simp only [this, if_false]; exact ⟨q3, q4⟩
        · rw [hout a hat] at e
          have hb : b ∉ v' :: t := fun hb => by
            have := hcl b hb a (M.sym _ _ e)
            rcases List.mem_cons.1 this with h | h
            · exact ha h
            · exact hat h
          simp only [List.mem_cons, not_or] at hb
          simp only [hb.1, if_false]
          exact ⟨by rw [hout b hb.2]; exact M.sym _ _ e, M.adj _ _ e⟩
    exact ⟨fun a b e => G.lt _ _ (key a b e).2, fun a b e => (key a b e).1, fun a b e => (key a b e).2⟩
  · -- v' is free now, r is not (or they are one)
    have hrl : r ∈ v' :: t := List.mem_of_getLast? hl
    have hrn := hlt r hrl
    refine inj_len (fun x => if x = v' then r else x) _ _ (nodup_freeOf _ _) (fun x hx => ?_) (fun x hx y hy e => ?_)
    · obtain ⟨a, b⟩ := mem_freeOf.1 hx
      by_cases hxv : x = v'
      · simp only [hxv, if_true]; exact mem_freeOf.2 ⟨hrn, hr⟩
      · simp only [hxv, if_false] at b ⊢
        have hxt : x ∉ t := fun h => by obtain ⟨w, q1, q2, q3, q4⟩ := Turned.pair hp ht G.sym x h; rw [b] at q2; cases q2
        exact mem_freeOf.2 ⟨a, by rw [← hout x hxt]; exact b⟩
    · obtain ⟨a, b⟩ := mem_freeOf.1 hx
      obtain ⟨c, d⟩ := mem_freeOf.1 hy
      have nr : ∀ z, z ≠ v' → (if z = v' then none else turnF t mate z) = none → z ≠ r ∨ r = v' := by
        intro z hz e0
        by_cases hrv : r = v'
        · exact .inr hrv
        · left; intro e'
          subst e'
          have hrt : z ∈ t := (List.mem_cons.1 hrl).resolve_left hz
          obtain ⟨w, q1, q2, q3, q4⟩ := Turned.pair hp ht G.sym z hrt
          rw [if_neg hz] at e0
          rw [e0] at q2; cases q2
      by_cases hx1 : x = v' <;> by_cases hy1 : y = v'
      · rw [hx1, hy1]
      · simp only [hx1, if_true, hy1, if_false] at e
        rcases nr y hy1 d with h | h
        · exact absurd e.symm h
        · rw [hx1, ← e, h]
      · simp only [hx1, if_false, hy1, if_true] at e
        rcases nr x hx1 b with h | h
        · exact absurd e h
        · rw [hy1, e, h]
      · simpa [hx1, hy1] using e

/-- OUTER VERTICES ARE LEFT OUT by some largest matching. -/
theorem InvO.left_out {S : St} {ord : Nat → Nat} (G : Gr n adj) (M : Mat n adj mate) (I : InvO n adj mate S ord) {v : Nat} (hv : v < n) (ho : S.outer v = true) :
    ∃ g, Mat n adj g ∧ g v = none ∧ (freeOf n g).length ≤ (freeOf n mate).length := by
  obtain ⟨r, l, h1, h2, h3, h4, h5, h6, h7, h8⟩ := I.way G M hv ho
  exact h6.left_out G M h5 h7 (by simp) h2 (fun u hu => (h8 u hu).1)
end
end Gar

namespace Gar

def lowOf (es : List (Nat × Nat)) (v : Nat) : List Nat := (es.filter fun e => e.2 == v).map (·.1)
def highOf (es : List (Nat × Nat)) (v : Nat) : List Nat := (es.filter fun e => e.1 == v).map (·.2)
def rowsOf (es : List (Nat × Nat)) (v : Nat) : List Nat := lowOf es v ++ highOf es v

/-- Joined by an edge. -/
def adjOf (es : List (Nat × Nat)) (u v : Nat) : Prop := (u, v) ∈ es ∨ (v, u) ∈ es

theorem mem_rowsOf {es : List (Nat × Nat)} {v u : Nat} : u ∈ rowsOf es v ↔ adjOf es v u := by
  simp only [rowsOf, lowOf, highOf, List.mem_append, List.mem_map, List.mem_filter, beq_iff_eq, adjOf]
  constructor
  · rintro (⟨⟨a, b⟩, ⟨h1, rfl⟩, rfl⟩ | ⟨⟨a, b⟩, ⟨h1, rfl⟩, rfl⟩)
    · exact .inr h1
    · exact .inl h1
  · rintro (h | h)
    · exact .inr ⟨(v, u), ⟨h, rfl⟩, rfl⟩
    · exact .inl ⟨(u, v), ⟨h, rfl⟩, rfl⟩

theorem low_len (es : List (Nat × Nat)) (v : Nat) : (lowOf es v).length ≤ es.length := by
  rw [lowOf, List.length_map]; exact List.length_filter_le _ _
theorem high_len (es : List (Nat × Nat)) (v : Nat) : (highOf es v).length ≤ es.length := by
  rw [highOf, List.length_map]; exact List.length_filter_le _ _
theorem rows_len (es : List (Nat × Nat)) (v : Nat) : (rowsOf es v).length ≤ 2 * es.length := by
  have := low_len es v; have := high_len es v
  rw [rowsOf, List.length_append]; omega

theorem low_snoc (es : List (Nat × Nat)) (e : Nat × Nat) (v : Nat) : lowOf (es ++ [e]) v = if e.2 = v then lowOf es v ++ [e.1] else lowOf es v := by
  unfold lowOf
  rw [List.filter_append, List.map_append]
  by_cases h : e.2 = v <;> simp [h]
theorem high_snoc (es : List (Nat × Nat)) (e : Nat × Nat) (v : Nat) : highOf (es ++ [e]) v = if e.1 = v then highOf es v ++ [e.2] else highOf es v := by
  unfold highOf
  rw [List.filter_append, List.map_append]
  by_cases h : e.1 = v <;> simp [h]

/-- The rows behind so many edges of the first pass, and of the second one. -/
def rowsA (es : List (Nat × Nat)) (i v : Nat) : List Nat := lowOf (es.take i) v
def rowsB (es : List (Nat × Nat)) (i v : Nat) : List Nat := lowOf es v ++ highOf (es.take i) v
theorem rowsA_zero (es : List (Nat × Nat)) : rowsA es 0 = fun _ => [] := by funext v; simp [rowsA, lowOf]
theorem rowsB_zero (es : List (Nat × Nat)) : rowsB es 0 = rowsA es es.length := by funext v; simp [rowsA, rowsB, highOf]
theorem rowsB_all (es : List (Nat × Nat)) : rowsB es es.length = rowsOf es := by funext v; simp [rowsB, rowsOf]
theorem rowsA_succ {es : List (Nat × Nat)} {i : Nat} (h : i < es.length) : rowsA es (i + 1) = fun v => if v = es[i].2 then rowsA es i es[i].2 ++ [es[i].1] else rowsA es i v := by
  funext v
  simp only [rowsA]
  rw [List.take_succ_eq_append_getElem h, low_snoc]
  by_cases e : v = es[i].2
  · subst e; simp
  · rw [if_neg (Ne.symm e), if_neg e]
theorem rowsB_succ {es : List (Nat × Nat)} {i : Nat} (h : i < es.length) : rowsB es (i + 1) = fun v => if v = es[i].1 then rowsB es i es[i].1 ++ [es[i].2] else rowsB es i v := by
  funext v
  simp only [rowsB]
  rw [List.take_succ_eq_append_getElem h, high_snoc]
  by_cases e : v = es[i].1
  · subst e; simp
  · rw [if_neg (Ne.symm e), if_neg e]
theorem rowsA_len (es : List (Nat × Nat)) (i v : Nat) : (rowsA es i v).length ≤ es.length := by
  have := low_len (es.take i) v; have := List.length_take_le i es
  have h : (es.take i).length ≤ es.length := by rw [List.length_take]; omega
  unfold rowsA; omega
theorem rowsB_len (es : List (Nat × Nat)) (i v : Nat) : (rowsB es i v).length ≤ 2 * es.length := by
  have := low_len es v; have := high_len (es.take i) v
  have h : (es.take i).length ≤ es.length := by rw [List.length_take]; omega
  unfold rowsB; rw [List.length_append]; omega
end Gar
