/-
  PROVED: lemmas of the claim; no condition beyond what each one states.
  PLAIN LAW. What is even does not hang on the run: a vertex is even if a largest matching leaves it, and only then.
-/
import Derived.Test.YtohpjggnhnjgpaaPart23
import Derived.Test.YtohpjggnhnjgpaaPart25
set_option linter.unusedVariables false
set_option linter.unusedSimpArgs false

namespace Gar
section
variable {n : Nat} {adj : Nat → Nat → Prop}

/-- Along a way of even length the matching moves: its first vertex is left then, and no more are. -/
theorem Alt.shift (G : Gr n adj) {f : Nat → Option Nat} (M : Mat n adj f) {r : Nat} (hr : f r = none) {l : List Nat} (h : Alt adj f l) : ∀ {p : List Nat}, l = p ++ [r] → l.Nodup → (∀ t ∈ l, t < n) →
    ∃ g, Mat n adj g ∧ (freeOf n g).length = (freeOf n f).length ∧ (∀ v, l.head? = some v → g v = none) ∧ ∀ t, t ∉ l → g t = f t := by
  induction h with
  | one v =>
    intro p hp _ _
    have : v = r := by
      cases p with
      | nil => simpa using hp
      | cons a t => simp at hp
    subst this
    exact ⟨f, M, rfl, fun u hu => by simp only [List.head?_cons, Option.some.injEq] at hu; subst hu; exact hr, fun _ _ => rfl⟩
  | @cons v m u l h1 h2 h3 ih =>
    intro p hp hnd hlt
    have hp' : ∃ p', u :: l = p' ++ [r] := by
      cases p with
      | nil => simp at hp
      | cons a t =>
        cases t with
        | nil => simp at hp
        | cons b t => simp only [List.cons_append, List.cons.injEq] at hp; exact ⟨t, hp.2.2⟩
    obtain ⟨p', hp'⟩ := hp'
    have hnd2 : (u :: l).Nodup := (List.nodup_cons.1 (List.nodup_cons.1 hnd).2).2
    have hvn : v ∉ m :: u :: l := (List.nodup_cons.1 hnd).1
    have hmn : m ∉ u :: l := (List.nodup_cons.1 (List.nodup_cons.1 hnd).2).1
    obtain ⟨g, Mg, hfr, hhd, hout⟩ := ih hp' hnd2 fun t ht => hlt t (List.mem_cons_of_mem _ (List.mem_cons_of_mem _ ht))
    have gu : g u = none := hhd u rfl
    have hv2 : v ∉ u :: l := fun h => hvn (List.mem_cons_of_mem _ h)
    have gv : g v = some m := by rw [hout v hv2]; exact h1
    have gm : g m = some v := Mg.sym _ _ gv
    have hvm : v ≠ m := fun e => hvn (by rw [e]; exact List.mem_cons_self)
    have hvu : v ≠ u := fun e => hv2 (by rw [e]; exact List.mem_cons_self)
    have hmu : m ≠ u := fun e => hmn (by rw [e]; exact List.mem_cons_self)
    have lv := hlt v List.mem_cons_self
    have lm := hlt m (List.mem_cons_of_mem _ List.mem_cons_self)
    have lu := hlt u (List.mem_cons_of_mem _ (List.mem_cons_of_mem _ List.mem_cons_self))
    have Md := Mg.del gv
    have Ma := Md.add G (v := m) (u := u) h2 (by simp) (by simp [hmu.symm, hvu.symm, gu])
    have e1 := free_pair (n := n) (f := fun t => if t = m then none else if t = v then none else g t) (g := g) (u := m) (v := v) hvm.symm lm lv (by simp) (by simp) fun t => by
      by_cases a : t = m
      · simp [a, gm]
      · by_cases b : t = v
        · simp [b, gv]
        · simp [a, b]
    have e2 := free_pair (n := n) (f := fun t => if t = m then none else if t = v then none else g t) (g := fun t => if t = u then some m else if t = m then some u else if t = m then none else if t = v then none else g t) (u := u) (v := m) hmu.symm lu lm (by simp [hmu.symm, hvu.symm, gu]) (by simp) fun t => by
      by_cases a : t = u
      · simp [a]
      · by_cases b : t = m
        · simp [b, hmu]
        · simp [a, b]
    refine ⟨_, Ma, by omega, fun x hx => ?_, fun t ht => ?_⟩
    · simp only [List.head?_cons, Option.some.injEq] at hx
      subst hx
      simp [hvm, hvu]
    · simp only [List.mem_cons, not_or] at ht
      simp only [ht.1, ht.2.1, ht.2.2.1, if_false]
      exact hout t (by simp only [List.mem_cons, not_or]; exact ht.2.2)

variable {es : List (Nat × Nat)}

theorem Told.missed (G : Gr n (adjOf es)) {f : Nat → Option Nat} {S : FS} (hT : Told n es f S) {v : Nat} (ho : S.outer v = true) : ∃ g, Mat n (adjOf es) g ∧ (freeOf n g).length = (freeOf n f).length ∧ g v = none := by
  obtain ⟨M, rep, hOk, hSt⟩ := hT
  obtain ⟨ord, I⟩ := hOk.inv
  obtain ⟨r, l, h1, h2, h3, h4, h5, h6, h7, h8⟩ := I.way G M (hOk.on v ho) ho
  obtain ⟨g, Mg, hg, hh, _⟩ := Alt.shift G M h2 h6 rfl h5 fun t ht => (h8 t ht).1
  exact ⟨g, Mg, hg, hh v h7⟩

theorem Told.outer_iff (G : Gr n (adjOf es)) {f f' : Nat → Option Nat} {S S' : FS} (hT : Told n es f S) (hT' : Told n es f' S') (v : Nat) : S.outer v = true → S'.outer v = true := fun ho => by
  have hv : v < n := by obtain ⟨M, rep, hOk, hSt⟩ := hT; exact hOk.on v ho
  obtain ⟨g, Mg, hg, hgv⟩ := hT.missed G ho
  exact hT'.leaves' G Mg (by have := hT.best.same G hT'.best; omega) hv hgv

theorem Told.aB_of (G : Gr n (adjOf es)) {f : Nat → Option Nat} {S : FS} (hT : Told n es f S) {v : Nat} (hv : v < n) : S.aB v = true ↔ S.outer v = false ∧ ∃ u, S.outer u = true ∧ adjOf es u v := by
  obtain ⟨M, rep, hOk, hSt⟩ := hT
  obtain ⟨ord, I⟩ := hOk.inv
  constructor
  · intro h
    unfold FS.aB at h
    simp only [Bool.and_eq_true, beq_iff_eq, Bool.not_eq_true'] at h
    obtain ⟨_, _, _, _, _, h6, _, h8⟩ := I.i5 v hv h.1
    exact ⟨h.2, _, h6, h8⟩
  · rintro ⟨h1, u, hu, ha⟩
    rcases hSt.at_ M I (hOk.on u hu) hv hu ha with h | ⟨h, _⟩
    · exact h
    · have : S.outer v = true := h
      rw [h1] at this; cases this

theorem Told.aB_same (G : Gr n (adjOf es)) {f f' : Nat → Option Nat} {S S' : FS} (hT : Told n es f S) (hT' : Told n es f' S') : setOf n S.aB = setOf n S'.aB := by
  have ho : ∀ v, S.outer v = S'.outer v := fun v => by
    have a := hT.outer_iff G hT' v
    have b := hT'.outer_iff G hT v
    cases h : S.outer v <;> cases h' : S'.outer v <;> simp_all
  unfold setOf
  apply List.filter_congr
  intro v hv
  have hv := List.mem_range.1 hv
  have e : S.aB v = true ↔ S'.aB v = true := by
    rw [hT.aB_of G hv, hT'.aB_of G hv, ho v]
    constructor
    · rintro ⟨a, u, b, c⟩; exact ⟨a, u, by rw [← ho u]; exact b, c⟩
    · rintro ⟨a, u, b, c⟩; exact ⟨a, u, by rw [ho u]; exact b, c⟩
  cases h : S.aB v <;> cases h' : S'.aB v <;> simp_all

/-- What the pieces of gallai.Pieces are, by the labels of another run. -/
theorem Told.gallai' (G : Gr n (adjOf es)) {f f' g : Nat → Option Nat} {S S' : FS} (hT : Told n es f S) (hT' : Told n es f' S') (hg : Best n es g) {L : List (List Nat)} (hL : Pieces n (adjOf es) (fun v => v < n ∧ v ∉ setOf n S'.aB ++ setOf n S'.cB) L) :
    (∀ l ∈ L, l.length % 2 = 1) ∧ L.length = (setOf n S.aB).length + (freeOf n g).length := by
  obtain ⟨h1, h2⟩ := hT'.gallai G hL
  refine ⟨h1, ?_⟩
  rw [h2, hT.aB_same G hT', hT'.best.same G hg, Nat.add_comm]
end
end Gar
