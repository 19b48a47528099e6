/-
  PROVED: lemmas of the claim; no condition beyond what each one states.
  The forest at its start.
  What holds of the edges while a forest grows: each is to be looked at, or was, and says nothing more.
-/
import Derived.Test.YtohpjggnhnjgpaaPart8
import Derived.Test.YtohpjggnhnjgpaaPart9
import Derived.Test.YtohpjggnhnjgpaaPart4
import Derived.Test.YtohpjggnhnjgpaaPart3
set_option linter.unusedVariables false
set_option linter.unusedSimpArgs false

namespace Gar
variable {n : Nat} {adj : Nat → Nat → Prop} {mate : Nat → Option Nat}

theorem FS.begun_begun (n : Nat) (mate : Nat → Option Nat) : Begun n mate ((FS.begun mate n).st id) := by
  refine ⟨fun v hv hm => ?_, fun v hv hm => ?_, fun v hv => ?_⟩
  · simp [FS.st, FS.begun, hv, hm]
  · simp [FS.st, FS.begun, hv, hm]
  · simp [FS.st, FS.begun, hv]

theorem FS.begun_ok (n : Nat) (adj : Nat → Nat → Prop) (mate : Nat → Option Nat) : FOk n adj mate (FS.begun mate n) id := by
  refine ⟨⟨_, (FS.begun_begun n mate).inv⟩, fun s t hs ht e => ?_, fun u hu => Int.le_refl _, Int.le_refl _, ?_, ?_, fun v hv => ?_, fun u hu => ?_⟩
  · simpa [FS.begun, hs, ht] using e
  · simp only [FS.begun]; omega
  · exact List.Nodup.sublist List.filter_sublist List.nodup_range
  · simp only [FS.begun, List.mem_filter, List.mem_range, decide_eq_true_eq] at hv
    exact ⟨hv.1, by simp [FS.begun, hv]⟩
  · simp only [FS.begun, decide_eq_true_eq] at hu; exact hu.1

theorem FS.begun_uf (n : Nat) (mate : Nat → Option Nat) : UF n (FS.begun mate n).up id := fun v hv => ⟨0, .root v hv (by simp [FS.begun, hv])⟩
end Gar

namespace Gar
variable {n : Nat} {adj : Nat → Nat → Prop} {mate : Nat → Option Nat} {S S' : FS} {rep rep' : Nat → Nat} {P P' : Nat → Nat → Prop}

/-- Of each edge from an outer vertex: it is to be looked at (P), or it is the matching's, or it leads to a vertex that was come to, and both are in one blossom if that one is outer, or it is to be looked at from there. -/
def Edged (n : Nat) (adj : Nat → Nat → Prop) (mate : Nat → Option Nat) (S : FS) (rep : Nat → Nat) (P : Nat → Nat → Prop) : Prop :=
  ∀ v u, v < n → S.outer v = true → adj v u → P v u ∨ mate v = some u ∨ (S.label u ≠ 0 ∧ (S.outer u = false ∨ S.base (rep v) = S.base (rep u) ∨ P u v))

/-- What waits, and what is left of the edges of one. -/
def Left (S : FS) (v : Nat) (us : List Nat) (a b : Nat) : Prop := a ∈ S.wait ∨ (a = v ∧ b ∈ us)

theorem Edged.mono (G : Gr n adj) (h : Edged n adj mate S rep P) (hp : ∀ a b, adj a b → P a b → P' a b) : Edged n adj mate S rep P' := by
  intro v u hv ho ha
  rcases h v u hv ho ha with k | k | ⟨k, k2 | k2 | k2⟩
  · exact .inl (hp v u ha k)
  · exact .inr (.inl k)
  · exact .inr (.inr ⟨k, .inl k2⟩)
  · exact .inr (.inr ⟨k, .inr (.inl k2)⟩)
  · exact .inr (.inr ⟨k, .inr (.inr (hp u v (G.sym _ _ ha) k2))⟩)

theorem Edged.begun (n : Nat) (adj : Nat → Nat → Prop) (mate : Nat → Option Nat) : Edged n adj mate (FS.begun mate n) id (fun a _ => a ∈ (FS.begun mate n).wait) := by
  intro v u hv ho _
  refine .inl ?_
  simp only [FS.begun, decide_eq_true_eq, List.mem_filter, List.mem_range] at ho ⊢
  exact ho

/-- The next one. -/
theorem Edged.next (G : Gr n adj) {v : Nat} {t us : List Nat} (h : Edged n adj mate S rep (fun a _ => a ∈ S.wait)) (hw : S.wait = v :: t) (hus : ∀ u, adj v u → u ∈ us) : Edged n adj mate { S with wait := t } rep (Left { S with wait := t } v us) :=
  h.mono G (S := S) fun a b hab ha => by
    rw [hw] at ha
    rcases List.mem_cons.1 ha with rfl | ha
    · exact .inr ⟨rfl, hus b hab⟩
    · exact .inl ha

theorem Edged.none (G : Gr n adj) {v : Nat} (h : Edged n adj mate S rep (Left S v [])) : Edged n adj mate S rep (fun a _ => a ∈ S.wait) :=
  h.mono G fun a b _ ha => ha.elim id fun k => by simp at k

/-- An edge that says nothing. -/
theorem Edged.look0 (M : Mat n adj mate) {v u : Nat} {us : List Nat} (h : Edged n adj mate S rep (Left S v (u :: us))) (hk : mate v = some u ∨ (S.label u ≠ 0 ∧ (S.outer u = false ∨ S.base (rep v) = S.base (rep u)))) :
    Edged n adj mate S rep (Left S v us) := by
  intro a b ha ho hab
  have hp : ∀ x y, Left S v (u :: us) x y → Left S v us x y ∨ (x = v ∧ y = u) := fun x y k => by
    rcases k with k | ⟨rfl, k⟩
    · exact .inl (.inl k)
    · rcases List.mem_cons.1 k with rfl | k
      · exact .inr ⟨rfl, rfl⟩
      · exact .inl (.inr ⟨rfl, k⟩)
  rcases h a b ha ho hab with k | k | ⟨k, k2 | k2 | k2⟩
  · rcases hp a b k with k | ⟨rfl, rfl⟩
    · exact .inl k
    · rcases hk with hk | ⟨hk, hk2⟩
      · exact .inr (.inl hk)
      · exact .inr (.inr ⟨hk, hk2.elim .inl fun e => .inr (.inl e)⟩)
  · exact .inr (.inl k)
  · exact .inr (.inr ⟨k, .inl k2⟩)
  · exact .inr (.inr ⟨k, .inr (.inl k2)⟩)
  · rcases hp b a k2 with k2 | ⟨rfl, rfl⟩
    · exact .inr (.inr ⟨k, .inr (.inr k2)⟩)
    · rcases hk with hk | ⟨hk, hk2⟩
      · exact .inr (.inl (M.sym _ _ hk))
      · rcases hk2 with hk2 | hk2
        · rw [ho] at hk2; cases hk2
        · exact .inr (.inr ⟨k, .inr (.inl hk2.symm)⟩)

/-- A blossom, or a tree that grows: what is later. -/
theorem Edged.later {v u : Nat} {us : List Nat} (h : Edged n adj mate S rep (Left S v (u :: us))) (L : Later n S rep S' rep') (G : Gr n adj) (hO : ∀ t, S.outer t = true → t < n) (hk : S'.label u ≠ 0 ∧ (S'.outer u = false ∨ S'.base (rep' v) = S'.base (rep' u)))
    (hnew : ∀ t, t < n → S'.outer t = true → S.outer t = false → t ∈ S'.wait) : Edged n adj mate S' rep' (Left S' v us) := by
  intro a b ha ho hab
  have hb : b < n := (G.lt a b hab).2
  rcases (Bool.eq_false_or_eq_true (S.outer a)).symm with hoa | hoa
  · exact .inl (.inl (hnew a ha ho hoa))
  have hp : ∀ x y, Left S v (u :: us) x y → Left S' v us x y ∨ (x = v ∧ y = u) := fun x y k => by
    rcases k with k | ⟨rfl, k⟩
    · exact .inl (.inl (L.wait x k))
    · rcases List.mem_cons.1 k with rfl | k
      · exact .inr ⟨rfl, rfl⟩
      · exact .inl (.inr ⟨rfl, k⟩)
  have hlab : S.label b ≠ 0 → S'.label b ≠ 0 := fun k => by rw [L.label b hb k]; exact k
  rcases h a b ha hoa hab with k | k | ⟨k, k2⟩
  · rcases hp a b k with k | ⟨rfl, rfl⟩
    · exact .inl k
    · exact .inr (.inr ⟨hk.1, hk.2.elim .inl fun e => .inr (.inl e)⟩)
  · exact .inr (.inl k)
  · rcases (Bool.eq_false_or_eq_true (S'.outer b)).symm with hob | hob
    · exact .inr (.inr ⟨hlab k, .inl hob⟩)
    rcases (Bool.eq_false_or_eq_true (S.outer b)).symm with hob0 | hob0
    · exact .inr (.inr ⟨hlab k, .inr (.inr (.inl (hnew b hb hob hob0)))⟩)
    rcases k2 with k2 | k2 | k2
    · rw [hob0] at k2; cases k2
    · exact .inr (.inr ⟨hlab k, .inr (.inl (L.B a b ha hb hoa hob0 k2))⟩)
    · rcases hp b a k2 with k2 | ⟨rfl, rfl⟩
      · exact .inr (.inr ⟨hlab k, .inr (.inr k2)⟩)
      · rcases hk.2 with e | e
        · rw [ho] at e; cases e
        · exact .inr (.inr ⟨hlab k, .inr (.inl e.symm)⟩)

/-- At the end. -/
theorem Edged.still (h : Edged n adj mate S rep (fun a _ => a ∈ S.wait)) (hw : S.wait = []) : Still n adj mate (S.st rep) := by
  intro v u hv ho ha
  rcases h v u hv ho ha with k | k | ⟨k, k2 | k2 | k2⟩
  · rw [hw] at k; simp at k
  · exact .inl k
  · refine .inr ⟨k, fun e => ?_⟩
    have e' : S.outer u = true := e
    rw [k2] at e'; cases e'
  · exact .inr ⟨k, fun _ => k2.symm⟩
  · rw [hw] at k2; simp at k2

/-- A TREE GROWS. -/
theorem FOk.grow (G : Gr n adj) (M : Mat n adj mate) (h : FOk n adj mate S rep) {v u x : Nat} (hv : v < n) (ho : S.outer v = true) (hvu : adj v u) (h0 : S.label u = 0) (hm : mate u = some x) :
    FOk n adj mate (S.grow v u x) rep ∧ Later n S rep (S.grow v u x) rep ∧ (S.grow v u x).label u ≠ 0 ∧ (S.grow v u x).outer u = false ∧ (∀ t, t < n → (S.grow v u x).outer t = true → S.outer t = false → t ∈ (S.grow v u x).wait) := by
  obtain ⟨ord, I⟩ := h.inv
  obtain ⟨hu, hx⟩ := M.lt u x hm
  have hxu : x ≠ u := fun e => by subst e; exact G.irr _ (M.adj _ _ hm)
  have hx0 : S.label x = 0 := I.mateOut M (w := u) (x := x) h0 hm
  have hout : ∀ t, t < n → S.label t = 0 → S.outer t = false := fun t ht e => by
    cases e2 : S.outer t with
    | false => rfl
    | true => exact absurd e (I.i2 t ht e2)
  have hxo := hout x hx hx0
  have huo := hout u hu h0
  have Gw : Grown n (S.st rep) ((S.grow v u x).st rep) v u x := by
    refine ⟨fun y => ?_, fun y => rfl, fun y => rfl, fun y => ?_, rfl, fun y => rfl⟩
    · show (S.grow v u x).label y = _
      simp only [FS.grow, FS.st, if_neg hxu, hx0, if_true]
      by_cases e : y = x
      · subst e; rw [if_pos rfl, if_neg hxu, if_pos rfl]
      · rw [if_neg e]
        by_cases e2 : y = u
        · rw [if_pos e2, if_pos e2]
        · rw [if_neg e2, if_neg e2, if_neg e]
    · show (S.grow v u x).root y = _
      simp only [FS.grow, FS.st]
      by_cases e : y = x
      · subst e; rw [if_pos rfl, if_neg hxu, if_pos rfl]
      · rw [if_neg e]
        by_cases e2 : y = u
        · rw [if_pos e2, if_pos e2]
        · rw [if_neg e2, if_neg e2, if_neg e]
  have hlab : ∀ t, S.label t ≠ 0 → t ≠ x ∧ t ≠ u := fun t ht => ⟨fun e => ht (by rw [e]; exact hx0), fun e => ht (by rw [e]; exact h0)⟩
  have hmem : ∀ t, t ∈ (S.grow v u x).wait ↔ t ∈ S.wait ∨ t = x := fun t => by simp [FS.grow]
  have hoo : ∀ t, (S.grow v u x).outer t = true ↔ t = x ∨ S.outer t = true := fun t => by
    show (if t = x then true else S.outer t) = true ↔ _
    by_cases e : t = x <;> simp [e]
  refine ⟨⟨I.grow G M hv ho hvu h0 hm Gw, h.cls, h.mks, h.t0, ?_, ?_, fun t ht => ?_, fun t ht => ?_⟩, ⟨fun t ht k => ?_, fun t ht k => ?_, fun t k => (hoo t).2 (.inr k), fun t _ k => ?_, fun t k => (hmem t).2 (.inl k), fun _ _ _ _ _ _ e => e, rfl, fun t k => ?_⟩, ?_, ?_, fun t ht k k2 => ?_⟩
  · have := h.t1
    have h2 : (setOf n S.outer).length ≤ (setOf n (S.grow v u x).outer).length := nodup_len_le _ _ (nodup_setOf n _) fun t ht => by
      obtain ⟨a, b⟩ := mem_setOf.1 ht
      exact mem_setOf.2 ⟨a, (hoo t).2 (.inr b)⟩
    show S.turn ≤ _
    omega
  · show (S.wait ++ [x]).Nodup
    refine List.nodup_append.2 ⟨h.wnd, by simp, fun a ha b hb e => ?_⟩
    simp only [List.mem_singleton] at hb
    have := (h.wo a ha).2
    rw [e, hb, hxo] at this; cases this
  · rcases (hmem t).1 ht with k | rfl
    · exact ⟨(h.wo t k).1, (hoo t).2 (.inr (h.wo t k).2)⟩
    · exact ⟨hx, (hoo t).2 (.inl rfl)⟩
  · rcases (hoo t).1 ht with rfl | k
    · exact hx
    · exact h.on t k
  · have := Gw.label t
    obtain ⟨a, b⟩ := hlab t k
    rw [if_neg b, if_neg a] at this; exact this
  · have := Gw.root t
    obtain ⟨a, b⟩ := hlab t k
    rw [if_neg b, if_neg a] at this; exact this
  · rcases (hoo t).1 k with rfl | k
    · exact .inr ((hmem t).2 (.inr rfl))
    · exact .inl k
  · rcases (hmem t).1 k with k | rfl
    · exact .inl k
    · exact .inr hxo
  · have := Gw.label u
    rw [if_pos rfl] at this
    have e : (S.grow v u x).label u = 2 := this
    rw [e]; decide
  · cases e : (S.grow v u x).outer u with
    | false => rfl
    | true =>
      rcases (hoo u).1 e with e | e
      · exact absurd e.symm hxu
      · rw [huo] at e; cases e
  · rcases (hoo t).1 k with rfl | k
    · exact (hmem t).2 (.inr rfl)
    · rw [k2] at k; cases k

/-- How many vertices are done with. -/
def FS.done (S : FS) (n : Nat) : Nat := ((List.range n).filter fun t => S.outer t && !decide (t ∈ S.wait)).length

theorem FS.done_le (S : FS) (n : Nat) : S.done n ≤ n := by
  have := List.length_filter_le (fun t => S.outer t && !decide (t ∈ S.wait)) (List.range n)
  simpa [FS.done] using this
theorem FS.done_mem {S : FS} {n t : Nat} : t ∈ ((List.range n).filter fun t => S.outer t && !decide (t ∈ S.wait)) ↔ t < n ∧ S.outer t = true ∧ t ∉ S.wait := by simp
theorem Later.done (L : Later n S rep S' rep') : S.done n ≤ S'.done n :=
  nodup_len_le _ _ (List.Nodup.sublist List.filter_sublist List.nodup_range) fun t ht => by
    obtain ⟨h1, h2, h3⟩ := FS.done_mem.1 ht
    exact FS.done_mem.2 ⟨h1, L.outer t h2, fun k => (L.fresh t k).elim h3 fun e => by rw [h2] at e; cases e⟩
theorem FOk.done_next (h : FOk n adj mate S rep) {v : Nat} {t : List Nat} (hw : S.wait = v :: t) : S.done n + 1 ≤ ({ S with wait := t } : FS).done n := by
  have hnd := h.wnd
  rw [hw] at hnd
  have hv := h.wo v (by rw [hw]; simp)
  have := nodup_len_le (v :: (List.range n).filter fun t => S.outer t && !decide (t ∈ S.wait)) ((List.range n).filter fun x => S.outer x && !decide (x ∈ t))
    (List.nodup_cons.2 ⟨fun k => (FS.done_mem.1 k).2.2 (by rw [hw]; simp), List.Nodup.sublist List.filter_sublist List.nodup_range⟩) fun x hx => by
      refine (FS.done_mem (S := { S with wait := t })).2 ?_
      rcases List.mem_cons.1 hx with rfl | hx
      · exact ⟨hv.1, hv.2, (List.nodup_cons.1 hnd).1⟩
      · obtain ⟨h1, h2, h3⟩ := FS.done_mem.1 hx
        exact ⟨h1, h2, fun k => h3 (by rw [hw]; simp [k])⟩
  simpa [FS.done] using this
theorem FOk.next (h : FOk n adj mate S rep) {v : Nat} {t : List Nat} (hw : S.wait = v :: t) : FOk n adj mate { S with wait := t } rep := by
  have hnd := h.wnd
  rw [hw] at hnd
  exact ⟨h.inv, h.cls, h.mks, h.t0, h.t1, (List.nodup_cons.1 hnd).2, fun x hx => h.wo x (by rw [hw]; simp [hx]), h.on⟩
theorem FOk.up (h : FOk n adj mate S rep) (up' : Nat → Nat) : FOk n adj mate { S with up := up' } rep := ⟨h.inv, h.cls, h.mks, h.t0, h.t1, h.wnd, h.wo, h.on⟩
end Gar
