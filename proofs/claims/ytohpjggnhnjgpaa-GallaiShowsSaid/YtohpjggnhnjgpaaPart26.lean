/-
  PROVED: lemmas of the claim; no condition beyond what each one states.
  Walks: slices.Grow of nothing, slices.Concat.
-/
import Derived.Test.YtohpjggnhnjgpaaPart11
import Derived.Test.YtohpjggnhnjgpaaPart8
import Derived.Lib.AppendZeros
set_option linter.unusedVariables false
set_option linter.unusedSimpArgs false

namespace Gar
open Go Go.RowKit Go.Proofs
set_option maxRecDepth 100000
set_option maxHeartbeats 1600000
variable {w : World}

section
variable {P : Program}
/-- append of a make to nothing. -/
theorem wpList_append_zeros {w : World} {ops : Array Oper} {rest : List Oper} {o : Oper} {a : Act} {Q : Exit → Act → World → Prop} (hgd : o.guard = none) (s x : Operand) (t tn : TypeId)
    (ho : o.op = .call { callee := .builtin .append, args := #[s, x], argTypes := #[t, tn] })
    (e : TypeId) (i : TypeInfo) (z : Value) (k kn : IntKind) (ht : P.underlying t = some (.slice e)) (htn : P.underlying tn = some (.int kn)) (hi : P.info? e = some i) (hz : i.zero = some z) (h1 : i.size = 1) (hzc : z.cells = #[z])
    (n : Nat) (h0 : 0 < n) (h48 : n * i.bytes ≤ 281474976710656) (hm : n ≤ maxLen) (hs : a.eval s = .slice none 0 0) (hx : a.eval x = .int k (n : Int))
    (hK : ∀ b c w', w.heap.size ≤ b → Ow w' 1 (some ⟨b, 0, none⟩) 0 c [] → Fr No w w' → wpList P ops Q rest (a.put o.dst (.slice (some ⟨b, 0, none⟩) n c)) w') : wpList P ops Q (o :: rest) a w :=
  wpList_plain hgd fun K hK' => by
    have h63 : (n : Int) ≤ 9223372036854775807 := by simp only [maxLen] at hm; omega
    have hr := Lib.run_append_nil_zeros (P := P) w t tn o.type e i z k kn ht htn hi hz n h0 (by omega) h63 h48
    unfold Oper.wp execOp
    simp only [ho, resolve, invoke, builtin, Sem.run_bind, Sem.run_pure, Result.andThen_ok, List.map_toArray, List.map_cons, List.map_nil, hs, hx, hr]
    refine hK' _ _ (hK w.heap.size _ _ (Nat.le_refl _) ⟨rfl, Nat.zero_le _, grownCap_le_maxLen w n 0 e hm, nofun, fun ad he => ?_⟩ ((Fr.refl No w).drew.alloc _))
    injection he with he; subst he
    refine ⟨rfl, _, ⟨e, heap_alloc_new w.drew _⟩, ?_, fun j u hu => by simp at hu⟩
    have hge := grownCap_ge w n 0 e
    simp only [Array.size_append, size_zeroCells, hzc]
    simp
    omega
end

def GrowPost7 (w : World) (e : Ending) (w' : World) : Prop := ∃ A c, e = .returned (.slice A 0 c) ∧ Ow w' 1 A 0 c [] ∧ (∀ x, InA A x → w.heap.size ≤ x) ∧ Fr No w w'

theorem grow7_spec {n : Nat} (hn : n ≤ 1000000) : Calls Try.prog 47 #[.slice none 0 0, .int .i64 (n : Int)] w (GrowPost7 w) := by
  obtain ⟨i0, hi, hz0, hz1, hz2⟩ := info_parts info_int
  go_enter Try.func47, Try.ntmps47
  rcases Nat.eq_zero_or_pos n with rfl | hp
  · go_wp2_with fail
    go_ret
    exact ⟨none, 0, rfl, Ow.nil_ _ _, (fun x ⟨ad, h, _⟩ => by cases h), Fr.refl _ _⟩
  · have hpi : (0 : Int) < (n : Int) := by omega
    go_wp2_with (at_builtin; refine wpList_append_zeros rfl (.tmp 20) (.tmp 21) 22 3 rfl 3 i0 (.int .i64 0) .i64 .i64 Try.underlying22 Try.underlying3 hi hz0 hz1 (by simp [Value.cells]) n hp (by rw [hz2]; omega) (by simp only [maxLen]; omega) rfl rfl ?_; intro b c w1 hb hO hfr)
    go_ret
    exact ⟨_, c, rfl, hO, fun x ⟨ad, h1, h2⟩ => by injection h1 with h1; subst h1; subst h2; exact hb, hfr⟩

/-- Slices of numbers in a row. -/
def RdL (w : World) (b : Nat) (L : List (List Nat)) : Prop := ∀ (i : Nat) (l : List Nat), L[i]? = some l → ∃ A c, w.cell? ⟨b, i, none⟩ = some (.slice A l.length c) ∧ Rd w 1 A l.length (l.map iv)
theorem RdL.fr {b : Nat} {L : List (List Nat)} {w w' : World} (h : RdL w b L) (k : Fr No w w') : RdL w' b L := fun i l hl => by
  obtain ⟨A, c, h1, h2⟩ := h i l hl
  exact ⟨A, c, k.cell h1 id, h2.fr k fun _ _ => id⟩

def CatRel1 (w : World) (L : List (List Nat)) (g : Nat) (x x3 : Value) (wr : World) : Prop :=
  ∃ i : Nat, x = .int .i64 (i : Int) ∧ x3 = .int .i64 (((L.take i).flatten.length : Nat) : Int) ∧ i ≤ L.length ∧ g = L.length - i ∧ w = wr
def CatRel2 (w : World) (L : List (List Nat)) (g : Nat) (x x6 : Value) (wr : World) : Prop :=
  ∃ i : Nat, x = .int .i64 (i : Int) ∧ i ≤ L.length ∧ g = L.length - i ∧ Coll wr w.heap.size (L.take i).flatten x6 ∧ Fr No w wr

theorem take_flat {L : List (List Nat)} {i : Nat} (h : i < L.length) : (L.take (i + 1)).flatten = (L.take i).flatten ++ L[i] := by
  rw [List.take_add_one, List.getElem?_eq_getElem h, Option.toList_some, List.flatten_append]; simp

theorem flat_le {L : List (List Nat)} {i : Nat} : (L.take i).flatten.length ≤ L.flatten.length := by
  conv => rhs; rw [← List.take_append_drop i L, List.flatten_append, List.length_append]
  omega

theorem concat_spec {b c : Nat} {L : List (List Nat)} (hl : L.length ≤ 1000000) (hf : L.flatten.length ≤ 1000000) (hL : RdL w b L) :
    Calls Try.prog 26 #[.slice (some ⟨b, 0, none⟩) L.length c] w (CollPost w L.flatten) := by
  obtain ⟨i0, hi, hz0, hz1, hz2⟩ := info_parts info_int
  have HL := Lib.hid hL
  clear hL
  go_enter Try.func26, Try.ntmps26
  go_wp2_with fail
  go_loopg [11, 3] L.length (CatRel1 w L)
  case atStart => exact ⟨0, rfl, rfl, by omega, rfl, rfl⟩
  case round =>
    obtain ⟨i, rfl, rfl, hil, hg, rfl⟩ := hrel
    have HGK := Lib.hid hg
    clear hg
    have hs1 := flat_le (L := L) (i := i)
    by_cases hlt : i < L.length
    · obtain ⟨A, c1, h1, _⟩ := HL.out i L[i] (List.getElem?_eq_getElem hlt)
      have h2 := flat_le (L := L) (i := i + 1)
      have h3 := take_flat hlt
      rw [h3, List.length_append] at h2
      have H3 := Lib.hid h3
      clear h3
      generalize L[i] = l at h1 h2 H3
      generalize hq : (L.take i).flatten.length = q at hs1 h2 ⊢
      have HQ := Lib.hid hq
      clear hq
      have hii : (i : Int) < (L.length : Int) := by omega
      go_wp2_with fail
      go_roundg (L.length - (i + 1))
      case measure => rw [HGK.out]; omega
      case rel => exact ⟨i + 1, rfl, by rw [H3.out, List.length_append, HQ.out]; simp, by omega, rfl, rfl⟩
    · have : i = L.length := by omega
      subst this
      rw [List.take_length]
      clear hs1
      generalize hq : L.flatten.length = q at hf ⊢
      have HQ := Lib.hid hq
      clear hq
      go_wp2_with (go_at_call 47; refine (grow7_spec (n := q) hf).mono ?_; rintro e w2 ⟨A6, c6, rfl, hO, hA, hfr⟩)
      have HO := Lib.hid hO
      clear hO
      go_loopg [27, 6] L.length (CatRel2 w L)
      case atStart => exact ⟨0, rfl, by omega, rfl, ⟨A6, c6, rfl, HO.out, hA⟩, hfr⟩
      case round =>
        clear HO hA hfr
        obtain ⟨i, rfl, hil, hg, ⟨A, c, rfl, hO, hA⟩, hfr⟩ := hrel
        have HGK := Lib.hid hg
        clear hg
        by_cases hlt : i < L.length
        · obtain ⟨A1, c1, h1, h4⟩ := (HL.out.fr hfr) i L[i] (List.getElem?_eq_getElem hlt)
          have h2 := flat_le (L := L) (i := i + 1)
          have h3 := take_flat hlt
          rw [h3, List.length_append, HQ.out] at h2
          have H3 := Lib.hid h3
          clear h3
          generalize L[i] = l at h1 h2 H3 h4
          generalize (L.take i).flatten = q at h2 hO H3
          have hii : (i : Int) < (L.length : Int) := by omega
          go_wp2_with (at_builtin; refine wpList_append_to rfl (.tmp 31) (.tmp 32) 22 rfl 3 i0 (.int .i64 0) 1 8 Try.underlying22 hi hz0 hz1 hz2 rfl (by decide) (q.length + l.length) (q.map iv ++ l.map iv) rfl hO rfl h4 (by simp [iv, Value.oneCell']) rfl rfl (by omega) (by simp only [maxLen]; omega) ?_; intro A5 c5 w5 hO5 hfr5 hA5)
          have hfr6 := hfr.new hfr5 hA
          have hA6 : ∀ b, InA A5 b → _ ≤ b := fun b hb => (hA5 b hb).elim (hA b) fun h => Nat.le_trans hfr.size h
          have HO5 := Lib.hid hO5
          clear hO hO5 hfr5 hA5 hfr
          go_roundg (L.length - (i + 1))
          case measure => rw [HGK.out]; omega
          case rel => exact ⟨i + 1, rfl, by omega, rfl, ⟨A5, c5, by rw [H3.out]; simp, by rw [H3.out]; simpa using HO5.out, hA6⟩, hfr6⟩
        · have : i = L.length := by omega
          subst this
          rw [List.take_length] at hO
          have HO := Lib.hid hO
          clear hO
          go_wp2_with fail
          go_ret
          exact ⟨_, rfl, ⟨A, c, by rw [List.take_length]; rfl, HO.out, hA⟩, hfr⟩

end Gar
