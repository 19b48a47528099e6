/-
  PROVED: lemmas of the claim; no condition beyond what each one states.
  Walks: help.Plain, help.Triple, what a program that does nothing does not answer (layer 14).
  Walks: what a program that does nothing does not answer (layer 14).
-/
import Derived.Test.YtohpjggnhnjgpaaPart25
import Derived.Test.YtohpjggnhnjgpaaPart22
set_option linter.unusedVariables false
set_option linter.unusedSimpArgs false

namespace Gar
open Go Go.RowKit Go.Proofs
set_option maxRecDepth 100000
set_option maxHeartbeats 1600000
variable {w : World}

theorem plain1_spec {a b : Int} (h : a = b) : Calls Try.prog 74 #[.int .i64 a, .int .i64 b] w (fun e w' => e = .returned (.bool true) ∧ w = w') := by
  subst h
  have e0 : (a == a) = true := by simp
  go_enter Try.func74, Try.ntmps74
  go_wp2_with fail
  go_ret
  exact ⟨rfl, rfl⟩

def SmRel (w : World) (m : Nat) (g : Nat) (x : Value) (wr : World) : Prop := ∃ i : Nat, x = .int .i64 (i : Int) ∧ i ≤ m ∧ g = m - i ∧ Fr No w wr

theorem same73_spec {A1 A2 : Option Addr} {c1 c2 : Nat} {l : List Nat} (hl : l.length ≤ 1000000) (h1 : Rd w 1 A1 l.length (l.map iv)) (h2 : Rd w 1 A2 l.length (l.map iv)) :
    Calls Try.prog 73 #[.slice A1 l.length c1, .slice A2 l.length c2, .func (.func 74) #[] #[]] w (fun e w' => e = .returned (.bool true) ∧ Fr No w w') := by
  have H1 := Lib.hid h1
  have H2 := Lib.hid h2
  clear h1 h2
  go_enter Try.func73, Try.ntmps73
  go_wp2_with fail
  go_loopg [7] l.length (SmRel w l.length)
  case atStart => exact ⟨0, rfl, by omega, rfl, Fr.refl _ _⟩
  case round =>
    obtain ⟨i, rfl, hi, hg, hfr⟩ := hrel
    have HG := Lib.hid hg
    clear hg
    by_cases hlt : i < l.length
    · obtain ⟨b1, o1, rfl, hc1⟩ := (H1.out.fr hfr fun _ _ => id).at_ (by rw [List.length_map]; omega)
      obtain ⟨b2, o2, rfl, hc2⟩ := (H2.out.fr hfr fun _ _ => id).at_ (by rw [List.length_map]; omega)
      have p1 := hc1 i (iv l[i]) (by simp [hlt])
      have p2 := hc2 i (iv l[i]) (by simp [hlt])
      have hii : (i : Int) < (l.length : Int) := by omega
      clear hc1 hc2
      generalize l[i] = y at p1 p2
      simp only [iv] at p1 p2
      go_wp2_with fail
      go_region_held3 (fun w' => w'.cell? ⟨b1, o1 + i, none⟩ = some (.int .i64 (y : Int)) ∧ w'.cell? ⟨b2, o2 + i, none⟩ = some (.int .i64 (y : Int)))
        (first | (simp [*]; done) | (exact ⟨s1, s2⟩))
        ((go_at_call 74; refine (plain1_spec rfl).mono ?_; rintro e w5 ⟨rfl, rfl⟩; have s1 := cell_drew p1; have s2 := cell_drew p2))
      go_wp2_with fail
      go_roundg (l.length - (i + 1))
      case measure => rw [HG.out]; omega
      case rel => exact ⟨i + 1, rfl, by omega, rfl, hfr.drew⟩
    · have : i = l.length := by omega
      subst this
      go_wp2_with fail
      go_ret
      exact ⟨rfl, hfr⟩

theorem plain54_spec {A1 A2 : Option Addr} {c1 c2 : Nat} {l : List Nat} (hl : l.length ≤ 1000000) (h1 : Rd w 1 A1 l.length (l.map iv)) (h2 : Rd w 1 A2 l.length (l.map iv)) :
    Calls Try.prog 54 #[.slice A1 l.length c1, .slice A2 l.length c2] w (fun e w' => e = .returned (.bool true) ∧ Fr No w w') := by
  have H1 := Lib.hid h1
  have H2 := Lib.hid h2
  clear h1 h2
  go_enter Try.func54, Try.ntmps54
  go_wp2_with fail
  refine (same73_spec hl H1.out H2.out).mono ?_
  rintro e w1 ⟨rfl, hfr⟩
  go_wp2_with fail
  go_ret
  exact ⟨rfl, hfr⟩

theorem triple31_spec {A1 A2 A3 B1 B2 B3 : Option Addr} {c1 c2 c3 d1 d2 d3 : Nat} {l1 l2 l3 : List Nat} (n1 : l1.length ≤ 1000000) (n2 : l2.length ≤ 1000000) (n3 : l3.length ≤ 1000000)
    (h1 : Rd w 1 A1 l1.length (l1.map iv)) (h2 : Rd w 1 A2 l2.length (l2.map iv)) (h3 : Rd w 1 A3 l3.length (l3.map iv)) (k1 : Rd w 1 B1 l1.length (l1.map iv)) (k2 : Rd w 1 B2 l2.length (l2.map iv)) (k3 : Rd w 1 B3 l3.length (l3.map iv)) :
    Calls Try.prog 31 #[.agg #[.slice A1 l1.length c1, .slice A2 l2.length c2, .slice A3 l3.length c3], .agg #[.slice B1 l1.length d1, .slice B2 l2.length d2, .slice B3 l3.length d3]] w (fun e w' => e = .returned (.bool true) ∧ Fr No w w') := by
  have f1 : Fr No w ((w.alloc (.cells #[.slice A1 l1.length c1, .slice A2 l2.length c2, .slice A3 l3.length c3] 29)).alloc (.cells #[.slice B1 l1.length d1, .slice B2 l2.length d2, .slice B3 l3.length d3] 29)) := ((Fr.refl _ _).alloc _).alloc _
  have ca := (Cs.new w 29 #[.slice A1 l1.length c1, .slice A2 l2.length c2, .slice A3 l3.length c3]).alloc (.cells #[.slice B1 l1.length d1, .slice B2 l2.length d2, .slice B3 l3.length d3] 29)
  have cb := Cs.new (w.alloc (.cells #[.slice A1 l1.length c1, .slice A2 l2.length c2, .slice A3 l3.length c3] 29)) 29 #[.slice B1 l1.length d1, .slice B2 l2.length d2, .slice B3 l3.length d3]
  rw [show (w.alloc (.cells #[.slice A1 l1.length c1, .slice A2 l2.length c2, .slice A3 l3.length c3] 29)).heap.size = w.heap.size + 1 by simp] at cb
  have H1 := Lib.hid (And.intro (h1.fr f1 fun _ _ => id) (k1.fr f1 fun _ _ => id))
  have H2 := Lib.hid (And.intro (h2.fr f1 fun _ _ => id) (k2.fr f1 fun _ _ => id))
  have H3 := Lib.hid (And.intro (h3.fr f1 fun _ _ => id) (k3.fr f1 fun _ _ => id))
  clear h1 h2 h3 k1 k2 k3
  go_enter Try.func31, Try.ntmps31
  go_upto_region 1 with (fail)
  generalize (w.alloc (.cells #[.slice A1 l1.length c1, .slice A2 l2.length c2, .slice A3 l3.length c3] 29)).alloc (.cells #[.slice B1 l1.length d1, .slice B2 l2.length d2, .slice B3 l3.length d3] 29) = w1 at f1 ca cb H1 H2 H3 ⊢
  generalize w.heap.size + 1 = bb at cb ⊢
  generalize w.heap.size = ba at ca ⊢
  have a0 := ca.cell 0
  have a1 := ca.cell 1
  have a2 := ca.cell 2
  have b0 := cb.cell 0
  have b1 := cb.cell 1
  have b2 := cb.cell 2
  simp only [List.getElem?_toArray, List.getElem?_cons_zero, List.getElem?_cons_succ] at a0 a1 a2 b0 b1 b2
  clear ca cb
  go_wp2_with fail
  refine (plain54_spec n1 H1.out.1 H1.out.2).mono ?_
  rintro e w2 ⟨rfl, hfr2⟩
  have a1 := hfr2.cell a1 id
  have a2 := hfr2.cell a2 id
  have b1 := hfr2.cell b1 id
  have b2 := hfr2.cell b2 id
  have f2 := f1.step hfr2
  have H22 := Lib.hid (And.intro (H2.out.1.fr hfr2 fun _ _ => id) (H2.out.2.fr hfr2 fun _ _ => id))
  have H32 := Lib.hid (And.intro (H3.out.1.fr hfr2 fun _ _ => id) (H3.out.2.fr hfr2 fun _ _ => id))
  clear hfr2 f1 a0 b0
  go_wp2_with fail
  refine (plain54_spec n2 H22.out.1 H22.out.2).mono ?_
  rintro e w3 ⟨rfl, hfr3⟩
  have a2 := hfr3.cell a2 id
  have b2 := hfr3.cell b2 id
  have f3 := f2.step hfr3
  have H33 := Lib.hid (And.intro (H32.out.1.fr hfr3 fun _ _ => id) (H32.out.2.fr hfr3 fun _ _ => id))
  clear hfr3 f2 a1 b1
  go_wp2_with fail
  refine (plain54_spec n3 H33.out.1 H33.out.2).mono ?_
  rintro e w4 ⟨rfl, hfr4⟩
  have f4 := f3.step hfr4
  clear hfr4 f3 a2 b2
  go_wp2_with fail
  go_ret
  exact ⟨rfl, f4⟩

end Gar

namespace Gar
open Go Go.RowKit Go.Proofs
set_option maxRecDepth 100000
set_option maxHeartbeats 1600000
variable {w : World}

theorem awake14_spec : Calls Try.prog 11 #[] w (fun e w' => e = .returned (.bool true) ∧ Fr No w w') := by
  have f1 : Fr No w (w.alloc (.cells #[.int .i64 0, .int .i64 1, .int .i64 0, .int .i64 2] 56)) := (Fr.refl _ _).alloc _
  have hO : Ow (w.alloc (.cells #[.int .i64 0, .int .i64 1, .int .i64 0, .int .i64 2] 56)) 2 (some ⟨w.heap.size, 0, none⟩) 2 2 (cellsOf star2) := ow_new (n := 2) (size := 2) (by rfl) (by simp [maxLen])
  have HO := Lib.hid hO
  clear hO
  go_enter Try.func11, Try.ntmps11
  go_wp2_with fail
  generalize w.alloc (.cells #[.int .i64 0, .int .i64 1, .int .i64 0, .int .i64 2] 56) = w1 at f1 HO ⊢
  generalize w.heap.size = b0 at HO ⊢
  refine (gof_spec (n := 3) (es := star2) star2_good HO.out.rd).mono ?_
  rintro e w2 ⟨f, S, A1, c1, A2, c2, A3, c3, hT, rfl, o1, o2, o3, hfr2⟩
  obtain ⟨e1, e2, e3⟩ := star2_told hT
  rw [e1] at o1 ⊢
  rw [e2] at o2 ⊢
  rw [e3] at o3 ⊢
  clear e1 e2 e3 hT
  have f2 := f1.step hfr2
  have HX := Lib.hid (And.intro o1 (And.intro o2 o3))
  clear o1 o2 o3 hfr2 f1 HO
  go_wp2_with fail
  have al : Fr No w2 (((w2.alloc (.cells #[.slice A1 2 c1, .slice A2 1 c2, .slice A3 0 c3] 29)).alloc (.cells #[.int .i64 1, .int .i64 2] 3)).alloc (.cells #[.int .i64 0] 3)) := (((Fr.refl _ _).alloc _).alloc _).alloc _
  have k1 : Rd (((w2.alloc (.cells #[.slice A1 2 c1, .slice A2 1 c2, .slice A3 0 c3] 29)).alloc (.cells #[.int .i64 1, .int .i64 2] 3)).alloc (.cells #[.int .i64 0] 3)) 1 (some ⟨w2.heap.size + 1, 0, none⟩) 2 [iv 1, iv 2] := by
    have h := (ow_new (w := w2.alloc (.cells #[.slice A1 2 c1, .slice A2 1 c2, .slice A3 0 c3] 29)) (T := 3) (c := #[.int .i64 1, .int .i64 2]) (n := 2) (size := 1) (by rfl) (by simp [maxLen])).rd.fr ((Fr.refl No _).alloc (.cells #[.int .i64 0] 3)) fun _ _ => id
    rw [show (w2.alloc (.cells #[.slice A1 2 c1, .slice A2 1 c2, .slice A3 0 c3] 29)).heap.size = w2.heap.size + 1 by simp] at h
    exact h
  have k2 : Rd (((w2.alloc (.cells #[.slice A1 2 c1, .slice A2 1 c2, .slice A3 0 c3] 29)).alloc (.cells #[.int .i64 1, .int .i64 2] 3)).alloc (.cells #[.int .i64 0] 3)) 1 (some ⟨w2.heap.size + 1 + 1, 0, none⟩) 1 [iv 0] := by
    have h := (ow_new (w := (w2.alloc (.cells #[.slice A1 2 c1, .slice A2 1 c2, .slice A3 0 c3] 29)).alloc (.cells #[.int .i64 1, .int .i64 2] 3)) (T := 3) (c := #[.int .i64 0]) (n := 1) (size := 1) (by rfl) (by simp [maxLen])).rd
    rw [show ((w2.alloc (.cells #[.slice A1 2 c1, .slice A2 1 c2, .slice A3 0 c3] 29)).alloc (.cells #[.int .i64 1, .int .i64 2] 3)).heap.size = w2.heap.size + 1 + 1 by simp] at h
    exact h
  refine (triple31_spec (l1 := [1, 2]) (l2 := [0]) (l3 := []) (by simp) (by simp) (by simp) (HX.out.1.rd.fr al fun _ _ => id) (HX.out.2.1.rd.fr al fun _ _ => id) (HX.out.2.2.rd.fr al fun _ _ => id) k1 k2 (Rd.nil_ _ _ _)).mono ?_
  rintro e w4 ⟨rfl, hfr4⟩
  have f4 := (f2.step al).step hfr4
  clear al k1 k2 hfr4 f2
  go_wp2_with fail
  go_ret
  exact ⟨rfl, f4⟩

end Gar
