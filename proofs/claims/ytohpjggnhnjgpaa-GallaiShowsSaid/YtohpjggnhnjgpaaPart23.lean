/-
  PROVED: lemmas of the claim; no condition beyond what each one states.
  PLAIN LAW. The table of all sets: how many edges a largest matching within a set of vertices has. The bitwise operators on numbers that are small.
  Walks: the reference's Table and Number.
-/
import Derived.Test.YtohpjggnhnjgpaaPart21
import Derived.Laws.BitsAllLaws
import Derived.Laws.BitsLemmas
import Derived.Test.YtohpjggnhnjgpaaPart13
import Derived.Test.YtohpjggnhnjgpaaPart8
import Derived.Test.YtohpjggnhnjgpaaPart5
set_option linter.unusedVariables false
set_option linter.unusedSimpArgs false

namespace Gar
open Go
section
variable {n : Nat} {adj : Nat → Nat → Prop} {s v rest x k : Nat}

theorem ofInt_i64 (a : Nat) (ha : a < 9223372036854775808) : (BitVec.ofInt 64 (a : Int)).toNat = a := by
  rw [BitVec.ofInt_natCast, BitVec.toNat_ofNat]; exact Nat.mod_eq_of_lt (by omega)
theorem i64_and_nat (a b : Nat) (ha : a < 9223372036854775808) (hb : b < 9223372036854775808) : bits .and .i64 (a : Int) (b : Int) = ((a &&& b : Nat) : Int) := by
  have hx : a &&& b < 2 ^ 63 := Nat.and_lt_two_pow _ (by omega)
  show IntKind.i64.wrap ((BitVec.ofInt 64 (a : Int) &&& BitVec.ofInt 64 (b : Int)).toNat : Int) = _
  rw [BitVec.toNat_and, ofInt_i64 a ha, ofInt_i64 b hb, IntKind.wrap_i64]
  omega
theorem i64_or_nat (a b : Nat) (ha : a < 9223372036854775808) (hb : b < 9223372036854775808) : bits .or .i64 (a : Int) (b : Int) = ((a ||| b : Nat) : Int) := by
  have hx : a ||| b < 2 ^ 63 := Nat.or_lt_two_pow (by omega) (by omega)
  show IntKind.i64.wrap ((BitVec.ofInt 64 (a : Int) ||| BitVec.ofInt 64 (b : Int)).toNat : Int) = _
  rw [BitVec.toNat_or, ofInt_i64 a ha, ofInt_i64 b hb, IntKind.wrap_i64]
  omega

/-- The least bit of a set, and the set without it. -/
structure LowBit (s v rest : Nat) : Prop where
  bit : s.testBit v = true
  low : ∀ j, j < v → s.testBit j = false
  rest : ∀ j, rest.testBit j = (s.testBit j && decide (j ≠ v))

theorem low_bit (hb : s.testBit v = true) (hl : ∀ j, j < v → s.testBit j = false) : LowBit s v (s &&& (s - 1)) := by
  refine ⟨hb, hl, fun j => ?_⟩
  have hm : s % 2 ^ (v + 1) = 2 ^ v := by
    refine Nat.eq_of_testBit_eq fun i => ?_
    rw [Nat.testBit_mod_two_pow, Nat.testBit_two_pow]
    by_cases h1 : i < v
    · simp [hl i h1]; omega
    · by_cases h2 : i = v
      · subst h2; simp [hb]
      · have : ¬ i < v + 1 := by omega
        simp [this]; omega
  have hs : s = 2 ^ (v + 1) * (s / 2 ^ (v + 1)) + 2 ^ v := by have := Nat.div_add_mod s (2 ^ (v + 1)); omega
  have hp : 0 < 2 ^ v := Nat.pow_pos (by omega)
  have h1 : 2 ^ v < 2 ^ (v + 1) := Nat.pow_lt_pow_right (by omega) (by omega)
  have hs' : s - 1 = 2 ^ (v + 1) * (s / 2 ^ (v + 1)) + (2 ^ v - 1) := by omega
  have e1 : s.testBit j = if j < v + 1 then (2 ^ v).testBit j else (s / 2 ^ (v + 1)).testBit (j - (v + 1)) := by
    conv => lhs; rw [hs]
    exact Nat.testBit_two_pow_mul_add _ h1 j
  have e2 : (s - 1).testBit j = if j < v + 1 then (2 ^ v - 1).testBit j else (s / 2 ^ (v + 1)).testBit (j - (v + 1)) := by
    rw [hs']
    exact Nat.testBit_two_pow_mul_add _ (by omega) j
  rw [Nat.testBit_and, e2]
  by_cases h2 : j < v + 1
  · rw [if_pos h2, Nat.testBit_two_pow_sub_one]
    by_cases h3 : j = v
    · subst h3; simp
    · simp [hl j (by omega)]
  · have h3 : j ≠ v := by omega
    rw [if_neg h2, e1, if_neg h2]; simp [h3]

/-- A set without one of its members. -/
theorem andNot_nat (a b : Nat) (ha : a < 9223372036854775808) (hb : b < 63) : ∃ r : Nat, bits .andNot .i64 (a : Int) (((2 ^ b : Nat)) : Int) = (r : Int) ∧ r ≤ a ∧ ∀ j, r.testBit j = (a.testBit j && decide (j ≠ b)) := by
  have h2 : 2 ^ b < 9223372036854775808 := Nat.lt_of_lt_of_le (Nat.pow_lt_pow_right (by omega) hb) (by decide)
  refine ⟨(BitVec.ofInt 64 (a : Int) &&& ~~~ (BitVec.ofInt 64 ((2 ^ b : Nat) : Int))).toNat, ?_, ?_, fun j => ?_⟩
  · show IntKind.i64.wrap ((BitVec.ofInt 64 (a : Int) &&& ~~~ (BitVec.ofInt 64 ((2 ^ b : Nat) : Int))).toNat : Int) = _
    have : (BitVec.ofInt 64 (a : Int) &&& ~~~ (BitVec.ofInt 64 ((2 ^ b : Nat) : Int))).toNat ≤ a := by
      rw [BitVec.toNat_and, ofInt_i64 a ha]; exact Nat.and_le_left
    generalize (BitVec.ofInt 64 (a : Int) &&& ~~~ (BitVec.ofInt 64 ((2 ^ b : Nat) : Int))).toNat = r at this ⊢
    clear h2
    rw [IntKind.wrap_i64]
    omega
  · rw [BitVec.toNat_and, ofInt_i64 a ha]; exact Nat.and_le_left
  · rw [BitVec.toNat_and, ofInt_i64 a ha, Nat.testBit_and, BitVec.testBit_toNat, BitVec.getLsbD_not, ← BitVec.testBit_toNat, ofInt_i64 _ h2, Nat.testBit_two_pow]
    by_cases hj : j < 64
    · by_cases e : b = j
      · subst e; simp
      · simp [hj, e, Ne.symm e]
    · have h3 : a.testBit j = false := Nat.testBit_lt_two_pow (Nat.lt_of_lt_of_le ha (Nat.le_trans (by decide) (Nat.pow_le_pow_right (by omega) (show 63 ≤ j by omega))))
      simp [h3]

theorem shl_one (b : Nat) (hb : b < 63) : IntKind.i64.wrap (1 * 2 ^ min ((b : Int)).toNat 64) = ((2 ^ b : Nat) : Int) := by
  have h2 : 2 ^ b < 9223372036854775808 := Nat.lt_of_lt_of_le (Nat.pow_lt_pow_right (by omega) hb) (by decide)
  have e : min ((b : Int)).toNat 64 = b := by omega
  have e2 : (1 : Int) * 2 ^ b = ((2 ^ b : Nat) : Int) := by rw [Int.one_mul, Int.natCast_pow]; rfl
  rw [e, e2, IntKind.wrap_i64]
  clear e e2
  generalize 2 ^ b = p at h2 ⊢
  omega
theorem shr_bit (a b : Nat) (ha : a < 9223372036854775808) (hb : b < 63) : bits .and .i64 ((a : Int).fdiv (2 ^ min ((b : Int)).toNat 64)) 1 = (((a.testBit b).toNat : Nat) : Int) := by
  have e : min ((b : Int)).toNat 64 = b := by omega
  have e2 : (2 : Int) ^ b = ((2 ^ b : Nat) : Int) := by rw [Int.natCast_pow]; rfl
  have e3 : (a : Int).fdiv (2 ^ b) = ((a / 2 ^ b : Nat) : Int) := by
    rw [e2, Int.fdiv_eq_ediv_of_nonneg _ (Int.natCast_nonneg _)]; rfl
  have h4 : a / 2 ^ b < 9223372036854775808 := Nat.lt_of_le_of_lt (Nat.div_le_self _ _) ha
  rw [e, e3, show (1 : Int) = ((1 : Nat) : Int) from rfl, i64_and_nat _ _ h4 (by omega), Nat.and_one_is_mod, Nat.testBit_eq_decide_div_mod_eq]
  have : a / 2 ^ b % 2 = 0 ∨ a / 2 ^ b % 2 = 1 := by omega
  rcases this with h | h <;> simp [h]

def Inside (f : Nat → Option Nat) (s : Nat) : Prop := ∀ v u, f v = some u → s.testBit v = true

structure TabVal (n : Nat) (adj : Nat → Nat → Prop) (s k : Nat) : Prop where
  has : ∃ f, Mat n adj f ∧ Inside f s ∧ (freeOf n f).length + 2 * k = n
  most : ∀ f, Mat n adj f → Inside f s → n ≤ (freeOf n f).length + 2 * k

structure TabUp (n : Nat) (adj : Nat → Nat → Prop) (s v x k : Nat) : Prop where
  has : ∃ f, Mat n adj f ∧ Inside f s ∧ (freeOf n f).length + 2 * k = n
  most : ∀ f, Mat n adj f → Inside f s → (∀ u, f v = some u → u < x) → n ≤ (freeOf n f).length + 2 * k

theorem TabVal.le (h : TabVal n adj s k) : 2 * k ≤ n := by obtain ⟨f, _, _, e⟩ := h.has; omega
theorem TabUp.le (h : TabUp n adj s v x k) : 2 * k ≤ n := by obtain ⟨f, _, _, e⟩ := h.has; omega

theorem free_pair {f g : Nat → Option Nat} {u v : Nat} (hne : u ≠ v) (hu : u < n) (hv : v < n) (fu : f u = none) (fv : f v = none) (h : ∀ t, g t = none ↔ t ≠ u ∧ t ≠ v ∧ f t = none) : (freeOf n f).length = (freeOf n g).length + 2 := by
  have hp : (freeOf n f).Perm (u :: v :: freeOf n g) := by
    refine (List.perm_ext_iff_of_nodup (nodup_freeOf n f) ?_).2 fun t => ?_
    · simp [mem_freeOf, h, nodup_freeOf, hne]
    · simp only [mem_freeOf, List.mem_cons, h]
      constructor
      · rintro ⟨a, b⟩
        by_cases e1 : t = u
        · exact .inl e1
        · by_cases e2 : t = v
          · exact .inr (.inl e2)
          · exact .inr (.inr ⟨a, e1, e2, b⟩)
      · rintro (rfl | rfl | ⟨a, _, _, b⟩)
        · exact ⟨hu, fu⟩
        · exact ⟨hv, fv⟩
        · exact ⟨a, b⟩
  have := hp.length_eq
  simpa using this

theorem Mat.del {f : Nat → Option Nat} (M : Mat n adj f) {v u : Nat} (h : f v = some u) : Mat n adj (fun t => if t = u then none else if t = v then none else f t) := by
  have key : ∀ a b, (if a = u then none else if a = v then none else f a) = some b → a ≠ u ∧ a ≠ v ∧ f a = some b := by
    intro a b h
    by_cases e1 : a = u
    · rw [if_pos e1] at h; cases h
    · rw [if_neg e1] at h
      by_cases e2 : a = v
      · rw [if_pos e2] at h; cases h
      · rw [if_neg e2] at h; exact ⟨e1, e2, h⟩
  refine ⟨fun a b k => M.lt a b (key a b k).2.2, fun a b k => ?_, fun a b k => M.adj a b (key a b k).2.2⟩
  obtain ⟨h1, h2, h3⟩ := key a b k
  have hs := M.sym _ _ h3
  have hvu := M.sym _ _ h
  have hbu : b ≠ u := fun e => by subst e; rw [hvu] at hs; injection hs with e; exact h2 e.symm
  have hbv : b ≠ v := fun e => by subst e; rw [h] at hs; injection hs with e; exact h1 e.symm
  show (if b = u then none else if b = v then none else f b) = some a
  rw [if_neg hbu, if_neg hbv]; exact hs

theorem TabVal.zero : TabVal n adj 0 0 := by
  refine ⟨⟨fun _ => none, ⟨by simp, by simp, by simp⟩, by simp [Inside], by rw [freeOf, List.filter_eq_self.2 (by simp)]; simp⟩, fun f _ hi => ?_⟩
  have : ∀ v, f v = none := fun v => by
    cases h : f v with
    | none => rfl
    | some u => have := hi v u h; simp at this
  rw [freeOf, List.filter_eq_self.2 (by simp [this])]; simp

theorem TabUp.start (G : Gr n adj) (L : LowBit s v rest) (h : TabVal n adj rest k) : TabUp n adj s v (v + 1) k := by
  obtain ⟨f, M, hi, e⟩ := h.has
  refine ⟨⟨f, M, fun a b hab => ?_, e⟩, fun g Mg hg hx => h.most g Mg fun a b hab => ?_⟩
  · have := hi a b hab; rw [L.rest] at this; simp only [Bool.and_eq_true] at this; exact this.1
  · have h1 := hg a b hab
    rw [L.rest, h1]
    have hav : a ≠ v := fun ev => by
      subst ev
      have h2 := hx b hab
      have h3 : b ≠ a := fun e => by subst e; exact G.irr _ (Mg.adj _ _ hab)
      have h4 := hg b a (Mg.sym _ _ hab)
      rw [L.low b (by omega)] at h4; cases h4
    simp [hav]

theorem TabUp.skip (L : LowBit s v rest) (h : TabUp n adj s v x k) (hvx : v < x) (hn : ¬ (rest.testBit x = true ∧ adj v x)) : TabUp n adj s v (x + 1) k :=
  ⟨h.has, fun f M hi hx => h.most f M hi fun u hu => by
    have h1 := hx u hu
    by_cases e : u = x
    · subst e
      refine absurd ⟨?_, M.adj _ _ hu⟩ hn
      rw [L.rest, hi u v (M.sym _ _ hu)]
      simp; omega
    · omega⟩

theorem TabUp.take (G : Gr n adj) (L : LowBit s v rest) (h : TabUp n adj s v x k) (hvx : v < x) (hb : rest.testBit x = true) (ha : adj v x) {r t : Nat} (hr : ∀ j, r.testBit j = (rest.testBit j && decide (j ≠ x))) (ht : TabVal n adj r t) : TabUp n adj s v (x + 1) (max k (1 + t)) := by
  have hlt := G.lt _ _ ha
  refine ⟨?_, fun f M hi hx => ?_⟩
  · by_cases hk : 1 + t ≤ k
    · have : max k (1 + t) = k := by omega
      rw [this]; exact h.has
    · have : max k (1 + t) = 1 + t := by omega
      rw [this]
      obtain ⟨g, M, hi, e⟩ := ht.has
      have gv : g v = none := by
        cases hg : g v with
        | none => rfl
        | some u => have := hi v u hg; rw [hr, L.rest] at this; simp at this
      have gx : g x = none := by
        cases hg : g x with
        | none => rfl
        | some u => have := hi x u hg; rw [hr] at this; simp at this
      refine ⟨_, M.add G ha gv gx, fun a b hab => ?_, ?_⟩
      · by_cases e1 : a = x
        · subst e1; rw [L.rest] at hb; simp only [Bool.and_eq_true] at hb; exact hb.1
        · by_cases e2 : a = v
          · subst e2; exact L.bit
          · simp only [e1, e2, if_false] at hab
            have := hi a b hab
            rw [hr, L.rest] at this; simp only [Bool.and_eq_true] at this; exact this.1.1
      · have := free_pair (n := n) (f := g) (g := fun t => if t = x then some v else if t = v then some x else g t) (u := x) (v := v) (by omega) hlt.2 hlt.1 gx gv fun t => by
          by_cases e1 : t = x
          · simp [e1]
          · by_cases e2 : t = v
            · simp only [e1, e2, if_false, if_true]; split <;> simp
            · simp [e1, e2]
        omega
  · by_cases hfx : f v = some x
    · have hxv := M.sym _ _ hfx
      have hd := ht.most _ (M.del hfx) fun a b hab => by
        by_cases e1 : a = x
        · simp [e1] at hab
        · by_cases e2 : a = v
          · simp [e2] at hab
          · simp only [e1, e2, if_false] at hab
            rw [hr, L.rest, hi a b hab]; simp [e1, e2]
      have := free_pair (n := n) (f := fun t => if t = x then none else if t = v then none else f t) (g := f) (u := x) (v := v) (by omega) hlt.2 hlt.1 (by simp) (by simp) fun t => by
        by_cases e1 : t = x
        · simp [e1, hxv]
        · by_cases e2 : t = v
          · simp [e2, hfx]
          · simp [e1, e2]
      omega
    · have := h.most f M hi fun u hu => by
        have h1 := hx u hu
        have : u ≠ x := fun e => hfx (by rw [← e]; exact hu)
        omega
      omega

theorem TabUp.done (h : TabUp n adj s v x k) (hx : n ≤ x) : TabVal n adj s k :=
  ⟨h.has, fun f M hi => h.most f M hi fun u hu => by have := (M.lt _ _ hu).2; omega⟩

theorem TabVal.all {es : List (Nat × Nat)} (G : Gr n (adjOf es)) {f : Nat → Option Nat} (hf : Best n es f) (h : TabVal n (adjOf es) (2 ^ n - 1) k) : (freeOf n f).length + 2 * k = n := by
  obtain ⟨g, M, _, e⟩ := h.has
  have h1 := hf.most G M
  have h2 := h.most f hf.1 fun a b hab => by rw [Nat.testBit_two_pow_sub_one]; simp; exact (hf.1.lt _ _ hab).1
  omega
end
end Gar

namespace Gar
open Go Go.RowKit Go.Proofs
set_option maxRecDepth 100000
set_option maxHeartbeats 1600000
variable {w : World} {n : Nat} {es : List (Nat × Nat)}

/-- A slice of one's own of n numbers. -/
def Tb (w : World) (b n : Nat) (f : Nat → Nat) : Prop := Ow w 1 (some ⟨b, 0, none⟩) n n ((List.range n).map fun v => iv (f v))
theorem Tb.cell {b : Nat} {f : Nat → Nat} (h : Tb w b n f) {v : Nat} (hv : v < n) : w.cell? ⟨b, v, none⟩ = some (.int .i64 (f v : Int)) := by
  have := (h.cellAt (i := v) (u := iv (f v)) (by simp [hv])).1
  simpa [iv] using this
theorem Tb.frz {b : Nat} {f : Nat → Nat} (h : Tb w b n f) {v : Nat} (hv : v < n) : w.frozen? ⟨b, v, none⟩ = false := by
  have := (h.cellAt (i := v) (u := iv (f v)) (by simp [hv])).2
  simpa using this
theorem Tb.set {b : Nat} {f : Nat → Nat} (h : Tb w b n f) (v x : Nat) : Tb (w.setCell ⟨b, v, none⟩ (.int .i64 (x : Int))) b n (fun j => if j = v then x else f j) := by
  have := Ow.set h v (iv x)
  rw [Nat.zero_add] at this
  have e : ((List.range n).map fun v => iv (f v)).set v (iv x) = (List.range n).map fun j => iv (if j = v then x else f j) := by
    refine List.ext_getElem? fun i => ?_
    rw [List.getElem?_set]
    simp only [List.length_map, List.length_range, List.getElem?_map, List.getElem?_range]
    by_cases e : v = i
    · subst e; by_cases hv : v < n <;> simp [hv]
    · by_cases hi : i < n
      · simp [hi, e, Ne.symm e]
      · simp [hi, e]
  rw [e] at this
  exact this
theorem Tb.fr {S : Nat → Prop} {w' : World} {b : Nat} {f : Nat → Nat} (h : Tb w b n f) (k : Fr S w w') (hb : ¬ S b) : Tb w' b n f := Ow.fr h k fun x ⟨ad, h1, h2⟩ => by injection h1 with h1; subst h1; exact fun hx => hb (by rw [← h2] at hx; exact hx)
theorem Tb.drew {b : Nat} {f : Nat → Nat} (h : Tb w b n f) : Tb w.drew b n f := h.fr ((Fr.refl No _).drew) id
theorem Tb.congr {b : Nat} {f g : Nat → Nat} (h : Tb w b n f) (e : ∀ v, v < n → f v = g v) : Tb w b n g := by
  have : ((List.range n).map fun v => iv (f v)) = (List.range n).map fun v => iv (g v) := List.map_congr_left fun v hv => by rw [e v (by simpa using hv)]
  unfold Tb at *; rw [← this]; exact h
theorem Tb.lt {b : Nat} {f : Nat → Nat} (h : Tb w b n f) : b < w.heap.size := Ow.lt h b ⟨_, rfl, rfl⟩

/-- The neighbours of each vertex in the first edges, as bits. -/
def NearB (n : Nat) (es : List (Nat × Nat)) (i : Nat) (m : Nat → Nat) : Prop := ∀ v, v < n → ∀ x, (m v).testBit x = true ↔ adjOf (es.take i) v x

theorem NearB.small (hG : Good n es) {i : Nat} {m : Nat → Nat} (h : NearB n es i m) {v : Nat} (hv : v < n) : m v < 2 ^ n := by
  refine Nat.lt_pow_two_of_testBit _ fun x hx => ?_
  cases hb : (m v).testBit x with
  | false => rfl
  | true =>
    have := (h v hv x).1 hb
    have : x < n := by
      rcases this with k | k
      · have := hG.mem _ (List.mem_of_mem_take k); simp at this; omega
      · have := hG.mem _ (List.mem_of_mem_take k); simp at this; omega
    omega
theorem NearB.zero : NearB n es 0 (fun _ => 0) := fun v _ x => by simp [adjOf]
theorem NearB.step (hG : Good n es) {i : Nat} {m : Nat → Nat} (h : NearB n es i m) (hi : i < es.length) {a b : Nat} (he : es[i] = (a, b)) :
    NearB n es (i + 1) (fun j => if j = b then m b ||| 2 ^ a else if j = a then m a ||| 2 ^ b else m j) := by
  intro v hv x
  have hm := hG.mem _ (List.getElem_mem hi)
  rw [he] at hm
  simp only at hm
  have ht : es.take (i + 1) = es.take i ++ [(a, b)] := by rw [List.take_add_one, List.getElem?_eq_getElem hi, he]; rfl
  have hadj : adjOf (es.take (i + 1)) v x ↔ adjOf (es.take i) v x ∨ (v = a ∧ x = b) ∨ (x = a ∧ v = b) := by
    unfold adjOf; rw [ht]; simp only [List.mem_append, List.mem_singleton, Prod.mk.injEq]
    constructor
    · rintro ((k | k) | (k | k))
      · exact .inl (.inl k)
      · exact .inr (.inl k)
      · exact .inl (.inr k)
      · exact .inr (.inr k)
    · rintro ((k | k) | k | k)
      · exact .inl (.inl k)
      · exact .inr (.inl k)
      · exact .inl (.inr k)
      · exact .inr (.inr k)
  rw [hadj]
  have hba : b ≠ a := by omega
  by_cases e1 : v = b
  · subst e1
    simp only [if_true]
    rw [Nat.testBit_or, Nat.testBit_two_pow, Bool.or_eq_true, h v hv x]
    simp only [decide_eq_true_eq, hba, false_and, false_or, and_true]
    exact ⟨fun k => k.imp id Eq.symm, fun k => k.imp id Eq.symm⟩
  · by_cases e2 : v = a
    · subst e2
      simp only [e1, if_false, if_true]
      rw [Nat.testBit_or, Nat.testBit_two_pow, Bool.or_eq_true, h v hv x]
      simp only [decide_eq_true_eq, true_and, e1, and_false, or_false]
      exact ⟨fun k => k.imp id Eq.symm, fun k => k.imp id Eq.symm⟩
    · simp only [e1, e2, if_false]
      rw [h v hv x]
      simp

theorem wrap_pow (b : Nat) (hb : b < 63) : wrap64 (2 ^ b) = ((2 ^ b : Nat) : Int) := by
  have h2 : 2 ^ b < 9223372036854775808 := Nat.lt_of_lt_of_le (Nat.pow_lt_pow_right (by omega) hb) (by decide)
  have e2 : (2 : Int) ^ b = ((2 ^ b : Nat) : Int) := by rw [Int.natCast_pow]; rfl
  rw [e2]
  generalize 2 ^ b = p at h2 ⊢
  exact wrap64_nat (by omega)
theorem raw_pow (x : Nat) (hx : x < 63) : IntKind.i64.wrap (2 ^ min (IntKind.u64.wrap (x : Int)).toNat 64) = ((2 ^ x : Nat) : Int) := by
  have e : IntKind.u64.wrap (x : Int) = (x : Int) := by rw [IntKind.wrap_u64]; omega
  have := shl_one x hx
  rw [Int.one_mul] at this
  rw [e]; exact this
theorem or_bit (a b : Nat) (ha : a < 9223372036854775808) (hb : b < 63) : bits .or .i64 (a : Int) (wrap64 (2 ^ b)) = ((a ||| 2 ^ b : Nat) : Int) := by
  rw [wrap_pow b hb]
  exact i64_or_nat _ _ ha (Nat.lt_of_lt_of_le (Nat.pow_lt_pow_right (by omega) hb) (by decide))

theorem shr_bit' (a b : Nat) (ha : a < 9223372036854775808) (hb : b < 63) : bits .and .i64 ((a : Int) / 2 ^ b) 1 = (((a.testBit b).toNat : Nat) : Int) := by
  have e2 : (2 : Int) ^ b = ((2 ^ b : Nat) : Int) := by rw [Int.natCast_pow]; rfl
  have e3 : (a : Int) / 2 ^ b = ((a / 2 ^ b : Nat) : Int) := by rw [e2]; rfl
  have h4 : a / 2 ^ b < 9223372036854775808 := Nat.lt_of_le_of_lt (Nat.div_le_self _ _) ha
  rw [e3, show (1 : Int) = ((1 : Nat) : Int) from rfl, i64_and_nat _ _ h4 (by omega), Nat.and_one_is_mod, Nat.testBit_eq_decide_div_mod_eq]
  have : a / 2 ^ b % 2 = 0 ∨ a / 2 ^ b % 2 = 1 := by omega
  rcases this with h | h <;> simp [h]
theorem rest_eq (s : Nat) (h : 0 < s) (h2 : s < 9223372036854775808) : bits .and .i64 (s : Int) ((s : Int) - 1) = ((s &&& (s - 1) : Nat) : Int) := by
  rw [show (s : Int) - 1 = ((s - 1 : Nat) : Int) by omega, i64_and_nat _ _ h2 (by omega)]

def NRel (w : World) (b n : Nat) (es : List (Nat × Nat)) (g : Nat) (x : Value) (wr : World) : Prop :=
  ∃ (i : Nat) (m : Nat → Nat), x = .int .i64 (i : Int) ∧ i ≤ es.length ∧ g = es.length - i ∧ NearB n es i m ∧ Tb wr b n m ∧ Fr (fun x => x = b) w wr

def SetRel (w : World) (b p n : Nat) (es : List (Nat × Nat)) (g : Nat) (x : Value) (wr : World) : Prop :=
  ∃ (s : Nat) (T : Nat → Nat), x = .int .i64 (s : Int) ∧ 1 ≤ s ∧ s ≤ p ∧ g = p - s ∧ (∀ r, r < s → TabVal n (adjOf es) r (T r)) ∧ Tb wr b p T ∧ Fr (fun x => x = b) w wr

def LowRel (w : World) (n s : Nat) (g : Nat) (x : Value) (wr : World) : Prop :=
  ∃ v : Nat, x = .int .i64 (v : Int) ∧ v ≤ n ∧ g = n - v ∧ (∀ j, j < v → s.testBit j = false) ∧ w = wr

def UpRel (w : World) (b p n : Nat) (es : List (Nat × Nat)) (s v : Nat) (T : Nat → Nat) (g : Nat) (y : Value) (wr : World) : Prop :=
  ∃ x k : Nat, y = .int .i64 (x : Int) ∧ v < x ∧ x ≤ n ∧ g = n - x ∧ TabUp n (adjOf es) s v x k ∧ Tb wr b p (fun j => if j = s then k else T j) ∧ Fr (fun x => x = b) w wr

theorem bit_of_pos {s : Nat} (h0 : 0 < s) (h : s < 2 ^ n) (hl : ∀ j, j < n → s.testBit j = false) : False := by
  have : s = 0 := Nat.eq_of_testBit_eq fun j => by
    rw [Nat.zero_testBit]
    by_cases hj : j < n
    · exact hl j hj
    · exact Nat.testBit_lt_two_pow (Nat.lt_of_lt_of_le h (Nat.pow_le_pow_right (by omega) (by omega)))
  omega

def TablePost (w : World) (n : Nat) (es : List (Nat × Nat)) (e : Ending) (w' : World) : Prop :=
  ∃ b T, e = .returned (.slice (some ⟨b, 0, none⟩) (2 ^ n) (2 ^ n)) ∧ w.heap.size ≤ b ∧ Tb w' b (2 ^ n) T ∧ (∀ s, s < 2 ^ n → TabVal n (adjOf es) s (T s)) ∧ Fr No w w'

theorem table_spec {Ae : Option Addr} {ce : Nat} (hG : Good n es) (hn : n ≤ 11) (hR : Rd w 2 Ae es.length (cellsOf es)) :
    Calls Try.prog 40 #[.agg #[.int .i64 (n : Int), .slice Ae es.length ce]] w (TablePost w n es) := by
  have hm := hG.m_le
  have f1 : Fr No w (w.alloc (.cells #[.int .i64 (n : Int), .slice Ae es.length ce] 25)) := (Fr.refl _ _).alloc _
  have cg := Cs.new w 25 #[.int .i64 (n : Int), .slice Ae es.length ce]
  have g0 := cg.cell 0
  have g1 := cg.cell 1
  simp only [List.getElem?_toArray, List.getElem?_cons_zero, List.getElem?_cons_succ] at g0 g1
  have hR1 := hR.fr f1 fun _ _ => id
  have hp : 2 ^ n ≤ 2048 := Nat.pow_le_pow_right (n := 2) (by omega) hn
  have hp0 : 0 < 2 ^ n := Nat.pow_pos (by omega)
  have HG := Lib.hid hG
  have HR := Lib.hid hR1
  have hsh := shl_one n (by omega)
  obtain ⟨i0, hi, hz0, hz1, hz2⟩ := info_parts info_int
  clear cg hR hR1 hG
  unfold TablePost
  obtain ⟨p, hpe⟩ : ∃ p, p = 2 ^ n := ⟨_, rfl⟩
  rw [← hpe] at hp hp0 hsh ⊢
  have HP := Lib.hid hpe
  clear hpe
  go_enter Try.func40, Try.ntmps40
  go_upto_region 1 with (fail)
  generalize w.alloc (.cells #[.int .i64 (n : Int), .slice Ae es.length ce] 25) = w1 at f1 g0 g1 HR ⊢
  generalize w.heap.size = b1 at g0 g1 ⊢
  go_upto_region 2 with (at_make; refine wpList_make_ow rfl _ _ 22 rfl 3 i0 (.int .i64 0) Try.underlying22 hi hz0 hz1 (by simp [Value.cells]) _ _ _ _ n rfl rfl rfl rfl (by rw [hz2]; omega) (by simp only [maxLen]; omega) ?_; intro bn w2 hbn hO hfr2)
  have g00 := g0
  have g0 := hfr2.cell g0 id
  have g1 := hfr2.cell g1 id
  have hR2 := HR.out.fr hfr2 fun _ _ => id
  have f2 := f1.step hfr2
  have hbn0 : w.heap.size ≤ bn := Nat.le_trans f1.size hbn
  have hT0 : Tb w2 bn n (fun _ => 0) := by
    have e : List.replicate n (Value.int .i64 0) = (List.range n).map fun _ => iv 0 := by rw [List.map_const']; simp [iv]
    unfold Tb; rw [← e]; exact hO
  have hb1 := World.block_lt_of_cell? w1 _ g00
  have hb1n : b1 ≠ bn := by simp only at hb1; omega
  have hbe : ∀ x, 0 < es.length → InA Ae x → x ≠ bn := fun x hl hx => by have := HR.out.lt (by rw [cellsOf_len]; omega) x hx; omega
  have HR := Lib.hid hR2
  clear hO hfr2 f1 hR2 hbn
  go_wp2_with fail
  go_loopg [4] es.length (NRel w2 bn n es)
  case atStart => exact ⟨0, _, rfl, by omega, by omega, NearB.zero, hT0, Fr.refl _ _⟩
  case round =>
    clear hT0
    obtain ⟨i, m, rfl, hi', hg, hN, hT, hfr⟩ := hrel
    have q0 := hfr.cell g0 hb1n
    have q1 := hfr.cell g1 hb1n
    have HGK := Lib.hid hg
    clear hg
    by_cases hlt : i < es.length
    · obtain ⟨be, oe, rfl, hce⟩ := (HR.out.fr hfr fun x hx => hbe x (by omega) hx).at_ (by rw [cellsOf_len]; omega)
      obtain ⟨k1, k2⟩ := cellsOf_get hlt
      have p1 := hce _ _ k1
      have p2 := hce _ _ k2
      obtain ⟨m1, m2⟩ := HG.out.mem _ (List.getElem_mem hlt)
      have hNN := hN.step HG.out hlt (a := es[i].1) (b := es[i].2) rfl
      have s1 := hN.small HG.out (v := es[i].1) (by omega)
      have s2 := hN.small HG.out (v := es[i].2) (by omega)
      rw [← HP.out] at s1 s2
      have m3 : es[i].1 < n := by omega
      generalize es[i] = e at p1 p2 m1 m2 m3 hNN s1 s2
      simp only [iv] at p1 p2
      rw [← Nat.add_assoc] at p2
      clear hce k1 k2 hN
      have HNN := Lib.hid hNN
      clear hNN
      have a1 := hT.cell m3
      have z1 := hT.frz m3
      have hn1 : (e.1 : Int) < (n : Int) := by omega
      have hn2 : (e.2 : Int) < (n : Int) := by omega
      have hii : (i : Int) < (es.length : Int) := by omega
      go_upto_region 5 with (fail)
      go_still (by kernel_rfl)
      go_upto_region 7 with (fail)
      rw [or_bit (m e.1) e.2 (by omega) (by omega)]
      have hf1 : Fr (fun x => x = bn) w2 (wr.setCell ⟨bn, e.1, none⟩ (.int .i64 ((m e.1 ||| 2 ^ e.2 : Nat) : Int))).drew := (hfr.setCell _ _ fun _ => rfl).drew
      have hT1 := (hT.set e.1 (m e.1 ||| 2 ^ e.2)).drew
      have hz2 := hT1.frz m2
      have ha2 := hT1.cell m2
      rw [if_neg (by omega)] at ha2
      clear q0 q1 p1 p2 a1 z1 hT hfr
      generalize (wr.setCell ⟨bn, e.1, none⟩ (.int .i64 ((m e.1 ||| 2 ^ e.2 : Nat) : Int))).drew = w6 at hf1 hT1 hz2 ha2 ⊢
      have HT1 := Lib.hid hT1
      clear hT1
      go_upto_region 4 with (fail)
      rw [or_bit (m e.2) e.1 (by omega) (by omega)]
      have hf2 := hf1.setCell ⟨bn, e.2, none⟩ (.int .i64 ((m e.2 ||| 2 ^ e.1 : Nat) : Int)) fun _ => rfl
      have hT2 := Lib.hid (HT1.out.set e.2 (m e.2 ||| 2 ^ e.1))
      clear ha2 hz2 HT1 hf1
      generalize w6.setCell ⟨bn, e.2, none⟩ (.int .i64 ((m e.2 ||| 2 ^ e.1 : Nat) : Int)) = w7 at hf2 hT2 ⊢
      go_wp2_with fail
      go_roundg (es.length - (i + 1))
      case measure => rw [HGK.out]; omega
      case rel => exact ⟨i + 1, _, rfl, by omega, rfl, HNN.out, hT2.out, hf2⟩
    · have : i = es.length := by omega
      subst this
      have HT := Lib.hid hT
      have HNB := Lib.hid (show ∀ v, v < n → ∀ x, (m v).testBit x = true ↔ adjOf es v x from by simpa only [NearB, List.take_length] using hN)
      have HSM := Lib.hid (show ∀ v, v < n → m v < p from fun v hv => by have := hN.small HG.out hv; rw [← HP.out] at this; exact this)
      have hpw : wrap64 (2 ^ n) = (p : Int) := by rw [wrap_pow n (by omega), HP.out]
      have HB2 := Lib.hid (show i0.bytes * p ≤ 281474976710656 from by rw [hz2]; clear hpw hsh; omega)
      have HB3 := Lib.hid (show p ≤ maxLen from by simp only [maxLen]; clear hpw hsh; omega)
      have HSH := Lib.hid hsh
      clear hT hN hsh
      go_upto_region 9 with (at_make; refine wpList_make_ow rfl _ _ 22 rfl 3 i0 (.int .i64 0) Try.underlying22 hi hz0 hz1 (by simp [Value.cells]) _ _ _ _ p rfl rfl (by first | exact hpw | exact HSH.out | rfl) (by first | exact hpw | exact HSH.out | rfl) HB2.out HB3.out ?_; intro bt w3 hbt hO hfr3)
      have hb1r := World.block_lt_of_cell? wr _ q0
      simp only at hb1r
      have hb1t : b1 ≠ bt := by clear hpw; omega
      have hbnr := HT.out.lt
      have hbnt : bn ≠ bt := by clear hpw; omega
      have hbt0 : w.heap.size ≤ bt := by have := f2.size; have := hfr.size; clear hpw; omega
      have f3 : Fr No w w3 := (f2.new hfr fun x e => by rw [e]; exact hbn0).step hfr3
      have q0 := hfr3.cell q0 id
      have HM := Lib.hid (show ∀ v, v < n → w3.cell? ⟨bn, v, none⟩ = some (.int .i64 (m v : Int)) from fun v hv => hfr3.cell (HT.out.cell hv) id)
      have hT0 : Tb w3 bt p (fun _ => 0) := by
        have e : List.replicate p (Value.int .i64 0) = (List.range p).map fun _ => iv 0 := by rw [List.map_const']; simp [iv]
        unfold Tb; rw [← e]; exact hO
      clear hO hfr3 hfr q1 HT hpw
      go_wp2_with fail
      go_loopg [8] (p - 1) (SetRel w3 bt p n es)
      case atStart =>
        refine ⟨1, fun _ => 0, rfl, by omega, by omega, rfl, fun r hr => ?_, hT0, Fr.refl _ _⟩
        rw [show r = 0 by omega]; exact TabVal.zero
      case round =>
        clear hT0
        obtain ⟨s, T, rfl, hs1, hsp, hg, hV, hT, hfr⟩ := hrel
        have HGK2 := Lib.hid hg
        have HV := Lib.hid hV
        have HT := Lib.hid hT
        clear hg hV hT
        by_cases hlt2 : s < p
        · have hss : (s : Int) < (p : Int) := by omega
          go_upto_region 13 with (fail)
          go_loopg [9] n (LowRel wr n s)
          case atStart => exact ⟨0, rfl, by omega, rfl, fun j hj => absurd hj (by omega), rfl⟩
          case round =>
            obtain ⟨v, rfl, hv, hg, hl, rfl⟩ := hrel
            have HGV := Lib.hid hg
            have HL := Lib.hid hl
            clear hg hl
            have hvn : v < n := by
              rcases Nat.lt_or_ge v n with h | h
              · exact h
              · exact (bit_of_pos (n := n) (by omega) (by rw [← HP.out]; omega) fun j hj => HL.out j (by omega)).elim
            cases hbit : s.testBit v with
            | false =>
              have eb : (bits .and .i64 ((s : Int) / 2 ^ v) 1 == 0) = true := by rw [shr_bit' _ _ (by omega) (by omega), hbit]; rfl
              have HB := Lib.hid hbit
              clear hbit
              go_wp2_with fail
              go_roundg (n - (v + 1))
              case measure => rw [HGV.out]; omega
              case rel => exact ⟨v + 1, rfl, by omega, rfl, fun j hj => by
                rcases Nat.lt_or_ge j v with h | h
                · exact HL.out j h
                · rw [show j = v by omega]; exact HB.out, rfl⟩
            | true =>
              have eb : (bits .and .i64 ((s : Int) / 2 ^ v) 1 == 0) = false := by rw [shr_bit' _ _ (by omega) (by omega), hbit]; rfl
              have hrb := low_bit hbit HL.out
              have hr1 : s &&& (s - 1) ≤ s - 1 := Nat.and_le_right
              have er := rest_eq s (by omega) (by omega)
              go_upto_region 16 with (fail)
              clear er eb hbit
              generalize s &&& (s - 1) = rest at hrb hr1 ⊢
              have HRB := Lib.hid hrb
              have hri : (rest : Int) < (p : Int) := by omega
              have t1 := HT.out.cell (v := rest) (by omega)
              have z1 := HT.out.frz hlt2
              have t2 := HT.out.cell hlt2
              clear hrb
              go_upto_region 17 with (fail)
              have hT1 := HT.out.set s (T rest)
              have hfr1 := hfr.setCell ⟨bt, s, none⟩ (.int .i64 (T rest : Int)) fun _ => rfl
              clear t1 t2 z1
              generalize wr.setCell ⟨bt, s, none⟩ (.int .i64 (T rest : Int)) = w6 at hT1 hfr1 ⊢
              have HT1 := Lib.hid hT1
              clear hT1
              have hU0 : TabUp n (adjOf es) s v (v + 1) (T rest) := TabUp.start HG.out.gr HRB.out (HV.out rest (by omega))
              go_wp2_with fail
              go_loopg [11] (n - (v + 1)) (UpRel w3 bt p n es s v T)
              case atStart => exact ⟨v + 1, T rest, rfl, by omega, by omega, rfl, hU0, HT1.out, hfr1⟩
              case round =>
                clear hU0 hfr1 HT1 HT hfr
                obtain ⟨x, k, rfl, hvx, hxn, hg, hU, hT2, hfr2⟩ := hrel
                have q1 := hfr2.cell q0 hb1t
                have HGX := Lib.hid hg
                have HU := Lib.hid hU
                have HT2 := Lib.hid hT2
                clear hg hU hT2
                by_cases hlt3 : x < n
                · have hxi : (x : Int) < (n : Int) := by omega
                  have hvi : (v : Int) < (n : Int) := by omega
                  have n1 := hfr2.cell (HM.out v hvn) hbnt
                  have hms := HSM.out v hvn
                  have HNV := Lib.hid (HNB.out v hvn x)
                  generalize m v = mv at n1 hms HNV
                  cases hb1 : rest.testBit x with
                  | false =>
                    have e1 : (bits .and .i64 ((rest : Int) / 2 ^ x) 1 == 1) = false := by rw [shr_bit' _ _ (by omega) (by omega), hb1]; rfl
                    have HB1 := Lib.hid hb1
                    clear hb1
                    go_wp2_with fail
                    go_roundg (n - (x + 1))
                    case measure => rw [HGX.out]; omega
                    case rel => exact ⟨x + 1, k, rfl, by omega, by omega, rfl, HU.out.skip HRB.out hvx (by rw [HB1.out]; simp), HT2.out, hfr2⟩
                  | true =>
                    have e1 : (bits .and .i64 ((rest : Int) / 2 ^ x) 1 == 1) = true := by rw [shr_bit' _ _ (by omega) (by omega), hb1]; rfl
                    have HB1 := Lib.hid hb1
                    clear hb1
                    cases hb2 : mv.testBit x with
                    | false =>
                      have e2 : (bits .and .i64 ((mv : Int) / 2 ^ x) 1 == 1) = false := by rw [shr_bit' _ _ (by omega) (by omega), hb2]; rfl
                      have HB2 := Lib.hid hb2
                      clear hb2
                      go_wp2_with fail
                      go_roundg (n - (x + 1))
                      case measure => rw [HGX.out]; omega
                      case rel => exact ⟨x + 1, k, rfl, by omega, by omega, rfl, HU.out.skip HRB.out hvx (fun ⟨_, h⟩ => by have := HNV.out.2 h; rw [HB2.out] at this; cases this), HT2.out, hfr2⟩
                    | true =>
                      have e2 : (bits .and .i64 ((mv : Int) / 2 ^ x) 1 == 1) = true := by rw [shr_bit' _ _ (by omega) (by omega), hb2]; rfl
                      have HB2 := Lib.hid (HNV.out.1 hb2)
                      obtain ⟨r, hr2, hr3, hr4⟩ := andNot_nat rest x (by omega) (by omega)
                      have hr5 : bits .andNot .i64 (rest : Int) (IntKind.i64.wrap (2 ^ min (IntKind.u64.wrap (x : Int)).toNat 64)) = (r : Int) := by rw [raw_pow x (by omega)]; exact hr2
                      clear hr2
                      have hrr : (r : Int) < (p : Int) := by omega
                      have c1 := HT2.out.cell (v := r) (by omega)
                      rw [if_neg (by omega)] at c1
                      have c2 := HT2.out.cell hlt2
                      rw [if_pos rfl] at c2
                      have c3 := HT2.out.frz hlt2
                      have hVr := HV.out r (by omega)
                      have hkr := hVr.le
                      have hkk := HU.out.le
                      have HVR := Lib.hid hVr
                      have HR4 := Lib.hid hr4
                      clear hVr hr4 hb2
                      go_wp2_with fail
                      go_still_tail 17, (by kernel_rfl)
                      go_upto_region 19 with (fail)
                      all_goals
                        have emax : (if (k : Int) < 1 + (T r : Int) then 1 + (T r : Int) else (k : Int)) = ((max k (1 + T r) : Nat) : Int) := by split <;> omega
                        rw [emax]
                        have hf5 := (hfr2.setCell ⟨bt, s, none⟩ (.int .i64 ((max k (1 + T r) : Nat) : Int)) fun _ => rfl).drew
                        have hT5 := (HT2.out.set s (max k (1 + T r))).drew
                        have hT6 := hT5.congr (g := fun j => if j = s then max k (1 + T r) else T j) fun j _ => by by_cases e : j = s <;> simp [e]
                        clear c1 c2 c3 q1 n1 hT5 emax hr5
                        generalize (wr.setCell ⟨bt, s, none⟩ (.int .i64 ((max k (1 + T r) : Nat) : Int))).drew = w7 at hf5 hT6 ⊢
                        have HT6 := Lib.hid hT6
                        clear hT6
                        go_wp2_with fail
                        all_goals
                          go_roundg (n - (x + 1))
                          case measure => rw [HGX.out]; omega
                          case rel => exact ⟨x + 1, _, rfl, by omega, by omega, rfl, HU.out.take HG.out.gr HRB.out hvx HB1.out HB2.out HR4.out HVR.out, HT6.out, hf5⟩
                · have : x = n := by omega
                  subst this
                  have HTV := Lib.hid (HU.out.done (Nat.le_refl _))
                  clear HU
                  go_wp2_with fail
                  go_roundg (p - (s + 1))
                  case measure => rw [HGK2.out]; omega
                  case rel => exact ⟨s + 1, _, rfl, by omega, by omega, rfl, fun r hr => by
                    show TabVal _ _ r (if r = s then k else T r)
                    by_cases e : r = s
                    · rw [if_pos e, e]; exact HTV.out
                    · rw [if_neg e]; exact HV.out r (by omega), HT2.out, hfr2⟩
        · have : s = p := by omega
          subst this
          go_wp2_with fail
          go_ret
          exact ⟨bt, T, rfl, hbt0, HT.out, HV.out, f3.new hfr fun x e => by rw [e]; exact hbt0⟩

def TabNumPost (w : World) (n : Nat) (es : List (Nat × Nat)) (e : Ending) (w' : World) : Prop :=
  ∃ k : Nat, e = .returned (.int .i64 (k : Int)) ∧ TabVal n (adjOf es) (2 ^ n - 1) k ∧ Fr No w w'

theorem number13_spec {Ae : Option Addr} {ce : Nat} (hG : Good n es) (hn : n ≤ 11) (hR : Rd w 2 Ae es.length (cellsOf es)) :
    Calls Try.prog 19 #[.agg #[.int .i64 (n : Int), .slice Ae es.length ce]] w (TabNumPost w n es) := by
  have f1 : Fr No w (w.alloc (.cells #[.int .i64 (n : Int), .slice Ae es.length ce] 25)) := (Fr.refl _ _).alloc _
  have cg := Cs.new w 25 #[.int .i64 (n : Int), .slice Ae es.length ce]
  have g0 := cg.cell 0
  have g1 := cg.cell 1
  simp only [List.getElem?_toArray, List.getElem?_cons_zero, List.getElem?_cons_succ] at g0 g1
  have HR := Lib.hid (hR.fr f1 fun _ _ => id)
  have HG := Lib.hid hG
  clear cg hR hG
  go_enter Try.func19, Try.ntmps19
  go_upto_region 1 with (fail)
  generalize w.alloc (.cells #[.int .i64 (n : Int), .slice Ae es.length ce] 25) = w1 at f1 g0 g1 HR ⊢
  generalize w.heap.size = b1 at g0 g1 ⊢
  go_wp2_with fail
  refine (table_spec HG.out hn HR.out).mono ?_
  rintro e w2 ⟨b, T, rfl, hb, hT, hV, hfr2⟩
  have f2 := f1.step hfr2
  have hp : 2 ^ n ≤ 2048 := Nat.pow_le_pow_right (n := 2) (by omega) hn
  have hp0 : 0 < 2 ^ n := Nat.pow_pos (by omega)
  have hV1 := hV (2 ^ n - 1) (by omega)
  obtain ⟨p, hpe⟩ : ∃ p, p = 2 ^ n := ⟨_, rfl⟩
  rw [← hpe] at hp hp0 hT hV1 ⊢
  have c1 := hT.cell (v := p - 1) (by omega)
  have HV1 := Lib.hid hV1
  clear hT hV hV1 g0 g1 hfr2
  obtain ⟨q, rfl⟩ : ∃ q, p = q + 1 := ⟨p - 1, by omega⟩
  have HE := Lib.hid (show 2 ^ n - 1 = q by omega)
  clear hpe
  rw [Nat.add_sub_cancel] at c1 HV1
  go_wp2_with fail
  go_ret
  exact ⟨_, rfl, by rw [HE.out]; exact HV1.out, f2⟩

end Gar
