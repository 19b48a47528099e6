/-
  PROVED: lemmas of the claim; no condition beyond what each one states.
  Walks: what a program that does nothing does not answer (layer 13).
  Walks: the statement BarrierLong.
-/
import Derived.Test.YtohpjggnhnjgpaaPart18
import Derived.Test.YtohpjggnhnjgpaaPart21
import Derived.Test.YtohpjggnhnjgpaaPart6
set_option linter.unusedVariables false
set_option linter.unusedSimpArgs false

namespace Gar
open Go Go.RowKit Go.Proofs
set_option maxRecDepth 100000
set_option maxHeartbeats 1600000
variable {w : World}

theorem ow_new {w : World} {T : TypeId} {c : Array Value} {size n : Nat} (hc : c.size = n * size) (hn : n ≤ maxLen) : Ow (w.alloc (.cells c T)) size (some ⟨w.heap.size, 0, none⟩) n n c.toList :=
  ⟨by simpa using hc, Nat.le_refl _, hn, nofun, fun ad e => by
    injection e with e; subst e
    exact ⟨rfl, c, Cs.new _ _ _, by simp only [Nat.zero_add]; omega, fun i u hu => by simpa using hu⟩⟩

def star3 : List (Nat × Nat) := [(0, 1), (0, 2), (0, 3)]
theorem star3_good : Good 4 star3 := ⟨by omega, by simp [star3], by simp [star3], by simp [star3, lexLt]⟩
theorem star3_pieces : Pieces 4 (adjOf star3) (fun v => v < 4 ∧ v ∉ [0]) [[1], [2], [3]] := by
  have hc : ∀ u v, Conn (adjOf star3) (fun v => v < 4 ∧ v ∉ [0]) u v → v = u := fun u v h =>
    h.stays (Q := fun x => x = u) (fun a b ha hb e hab => by
      subst e
      simp only [adjOf, star3, List.mem_cons, List.not_mem_nil, Prod.mk.injEq, or_false, not_false_eq_true] at hab ha hb
      omega) rfl
  refine ⟨fun u h => h.1, by simp, by simp, fun l hl u hu => ?_, fun u hu => ?_, by simp⟩
  · simp only [List.mem_cons, List.not_mem_nil, or_false] at hl
    rcases hl with rfl | rfl | rfl <;> (simp only [List.mem_cons, List.not_mem_nil, or_false] at hu; subst hu; refine ⟨by simp, fun v => ⟨fun h => ?_, fun h => ?_⟩⟩)
    all_goals first
      | (simp only [List.mem_cons, List.not_mem_nil, or_false] at h; subst h; exact .refl _ (by simp))
      | (have := hc _ _ h; subst this; simp)
  · simp only [List.mem_cons, List.not_mem_nil, or_false] at hu
    have : u = 1 ∨ u = 2 ∨ u = 3 := by omega
    rcases this with rfl | rfl | rfl
    · exact ⟨[1], by simp, by simp⟩
    · exact ⟨[2], by simp, by simp⟩
    · exact ⟨[3], by simp, by simp⟩
theorem star3_odd {L : List (List Nat)} (h : Pieces 4 (adjOf star3) (fun v => v < 4 ∧ v ∉ [0]) L) : sumOdd L = 3 := by rw [h.uniq star3_pieces]; rfl

def mate3 (v : Nat) : Option Nat := if v = 0 then some 1 else if v = 1 then some 0 else none
theorem mate3_mat : Mat 4 (adjOf star3) mate3 := by
  have key : ∀ v u, mate3 v = some u → (v = 0 ∧ u = 1) ∨ (v = 1 ∧ u = 0) := by
    intro v u h
    unfold mate3 at h
    by_cases e : v = 0
    · rw [if_pos e] at h; injection h with h; exact .inl ⟨e, h.symm⟩
    · rw [if_neg e] at h
      by_cases e2 : v = 1
      · rw [if_pos e2] at h; injection h with h; exact .inr ⟨e2, h.symm⟩
      · rw [if_neg e2] at h; cases h
  refine ⟨fun v u h => ?_, fun v u h => ?_, fun v u h => ?_⟩ <;> rcases key v u h with ⟨rfl, rfl⟩ | ⟨rfl, rfl⟩
  · omega
  · omega
  · rfl
  · rfl
  · simp [adjOf, star3]
  · simp [adjOf, star3]

theorem awake13_spec : Calls Try.prog 18 #[] w (fun e w' => e = .returned (.bool true) ∧ Fr No w w') := by
  have f1 : Fr No w ((w.alloc (.cells #[.int .i64 0, .int .i64 1, .int .i64 0, .int .i64 2, .int .i64 0, .int .i64 3] 56)).alloc (.cells #[.int .i64 4, .slice (some ⟨w.heap.size, 0, none⟩) 3 3] 25)) := ((Fr.refl _ _).alloc _).alloc _
  have hO : Ow ((w.alloc (.cells #[.int .i64 0, .int .i64 1, .int .i64 0, .int .i64 2, .int .i64 0, .int .i64 3] 56)).alloc (.cells #[.int .i64 4, .slice (some ⟨w.heap.size, 0, none⟩) 3 3] 25)) 2 (some ⟨w.heap.size, 0, none⟩) 3 3 (cellsOf star3) :=
    (ow_new (n := 3) (size := 2) (by rfl) (by simp [maxLen])).fr ((Fr.refl No _).alloc _) fun _ _ => id
  have c1 := Cs.new (w.alloc (.cells #[.int .i64 0, .int .i64 1, .int .i64 0, .int .i64 2, .int .i64 0, .int .i64 3] 56)) 25 #[.int .i64 4, .slice (some ⟨w.heap.size, 0, none⟩) 3 3]
  have e1 : (w.alloc (.cells #[.int .i64 0, .int .i64 1, .int .i64 0, .int .i64 2, .int .i64 0, .int .i64 3] 56)).heap.size = w.heap.size + 1 := by simp
  rw [e1] at c1
  clear e1
  go_enter Try.func18, Try.ntmps18
  go_upto_region 2 with (fail)
  generalize (w.alloc (.cells #[.int .i64 0, .int .i64 1, .int .i64 0, .int .i64 2, .int .i64 0, .int .i64 3] 56)).alloc (.cells #[.int .i64 4, .slice (some ⟨w.heap.size, 0, none⟩) 3 3] 25) = w1 at f1 hO c1 ⊢
  generalize w.heap.size + 1 = b1 at c1 ⊢
  generalize w.heap.size = b0 at hO c1 ⊢
  have g0 := c1.cell 0
  have g1 := c1.cell 1
  simp only [List.getElem?_toArray, List.getElem?_cons_zero, List.getElem?_cons_succ] at g0 g1
  have HO := Lib.hid hO
  have HGr := Lib.hid star3_good.gr
  clear c1 hO
  have hal : Fr No w1 (w1.alloc (.cells #[.int .i64 0] 3)) := (Fr.refl _ _).alloc _
  have hb : Rd (w1.alloc (.cells #[.int .i64 0] 3)) 1 (some ⟨w1.heap.size, 0, none⟩) 1 [iv 0] := (ow_new (n := 1) (size := 1) (c := #[iv 0]) (by rfl) (by simp [maxLen])).rd
  have HB := Lib.hid hb
  clear hb
  go_wp2_with fail
  refine (lackb_spec (n := 4) (es := star3) (b := [0]) star3_good HGr.out (HO.out.rd.fr hal fun _ _ => id) (by simp) (by simp) HB.out).mono ?_
  rintro e w2 ⟨L, hP, rfl, hfr2⟩
  have e1 : ((sumOdd L : Nat) : Int) - ((([0] : List Nat).length : Nat) : Int) = 2 := by rw [star3_odd hP]; rfl
  rw [e1]
  have f2 := (f1.step hal).step hfr2
  have g0 := hfr2.cell (hal.cell g0 id) id
  have g1 := hfr2.cell (hal.cell g1 id) id
  have HO2 := Lib.hid ((HO.out.fr hal fun _ _ => id).fr hfr2 fun _ _ => id)
  clear hP e1 hfr2 hal f1
  have hal2 : Fr No w2 ((w2.alloc (.cells #[.int .i64 1, .int .i64 0, .int .i64 (-1), .int .i64 (-1)] 3)).alloc (.cells #[.int .i64 0] 3)) := ((Fr.refl _ _).alloc _).alloc _
  have hm : Ow ((w2.alloc (.cells #[.int .i64 1, .int .i64 0, .int .i64 (-1), .int .i64 (-1)] 3)).alloc (.cells #[.int .i64 0] 3)) 1 (some ⟨w2.heap.size, 0, none⟩) 4 4 (mv 4 mate3) :=
    (ow_new (n := 4) (size := 1) (c := #[.int .i64 1, .int .i64 0, .int .i64 (-1), .int .i64 (-1)]) (by rfl) (by simp [maxLen])).fr ((Fr.refl No _).alloc _) fun _ _ => id
  have hsz : (w2.alloc (.cells #[.int .i64 1, .int .i64 0, .int .i64 (-1), .int .i64 (-1)] 3)).heap.size = w2.heap.size + 1 := by simp
  have hb2 : Rd ((w2.alloc (.cells #[.int .i64 1, .int .i64 0, .int .i64 (-1), .int .i64 (-1)] 3)).alloc (.cells #[.int .i64 0] 3)) 1 (some ⟨w2.heap.size + 1, 0, none⟩) 1 [iv 0] := by
    rw [← hsz]; exact (ow_new (n := 1) (size := 1) (c := #[iv 0]) (by rfl) (by simp [maxLen])).rd
  have HM := Lib.hid (And.intro hm hb2)
  have hh : ∀ L, Pieces 4 (adjOf star3) (fun v => v < 4 ∧ v ∉ [0]) L → ((4 : Nat) : Int) - (((sumOdd L : Nat) : Int) - ((([0] : List Nat).length : Nat) : Int)) = ((2 * sizeOf' 4 mate3 : Nat) : Int) := fun L hL => by rw [star3_odd hL]; rfl
  have HH := Lib.hid hh
  have f4 := f2.step hal2
  clear hm hb2 hsz hh
  go_wp2_with fail
  refine (showsb_spec (n := 4) (es := star3) (b := [0]) star3_good HGr.out (HO2.out.rd.fr hal2 fun _ _ => id) mate3_mat HM.out.1 (fun _ => ⟨_, rfl⟩) (by simp) (by simp) HM.out.2 HH.out).mono ?_
  rintro e w5 ⟨rfl, hfr5⟩
  have f5 := f4.step hfr5
  clear g0 g1 hfr5 f4
  go_wp2_with fail
  go_ret
  exact ⟨rfl, f5⟩
end Gar

namespace Gar
open Go Go.RowKit Go.Proofs
set_option maxRecDepth 100000
set_option maxHeartbeats 1600000
variable {w : World}

theorem long5_spec {x0 x1 x2 : Int} {Ax : Option Addr} {cx : Nat} {xs : List Int} (hx : Rd w 1 Ax xs.length (xs.map (Value.int .i64))) (hxl : (xs.length : Int) ≤ 9223372036854775807) :
    Calls Try.prog 5 #[.int .i64 x0, .int .i64 x1, .int .i64 x2, .slice Ax xs.length cx] w (fun e w' => e = .returned (.bool true) ∧ Fr No w w') := by
  have HX := Lib.hid hx
  clear hx
  go_enter Try.func5, Try.ntmps5
  go_wp2_with fail
  refine long_spec.mono ?_
  rintro e w1 ⟨n, es, A, c, hnV, hG, rfl, hO, hA, hfr1⟩
  have HO := Lib.hid (And.intro hG (hO.fr ((Fr.refl No _).alloc (.cells #[.int .i64 (n : Int), .slice A es.length c] 25)) fun _ _ => id))
  have HXX := Lib.hid ((HX.out.fr hfr1 fun _ _ => id).fr ((Fr.refl No _).alloc (.cells #[.int .i64 (n : Int), .slice A es.length c] 25)) fun _ _ => id)
  have c9 := Cs.new w1 25 #[.int .i64 (n : Int), .slice A es.length c]
  have f2 := hfr1.alloc (.cells #[.int .i64 (n : Int), .slice A es.length c] 25)
  have hb9 : w.heap.size ≤ w1.heap.size := hfr1.size
  clear hG hO hA hfr1
  go_upto_region 2 with (fail)
  generalize w1.alloc (.cells #[.int .i64 (n : Int), .slice A es.length c] 25) = w2 at HO HXX c9 f2 ⊢
  generalize w1.heap.size = b9 at c9 hb9 ⊢
  by_cases h2 : (2 : Int) < (xs.length : Int)
  · have d2 : decide ((2 : Int) < (xs.length : Int)) = true := by simpa using h2
    go_upto_region 3 with (fail)
    go_wp2_with fail
    refine (small_spec (V := 60) (E := 70) HXX.out hxl (by omega) (by omega)).mono ?_
    rintro e w3 ⟨n', es', A', c', hnV', hG', rfl, hO', hA', hfr3⟩
    have c9' := c9.fr hfr3 id
    have r0 := c9'.cell 0
    have r1 := c9'.cell 1
    have z0 := c9'.frozen 0
    have z1 := c9'.frozen 1
    simp only [List.getElem?_toArray, List.getElem?_cons_zero, List.getElem?_cons_succ] at r0 r1
    have hs : Fr (fun x => x = b9) w3 ((w3.setCell ⟨b9, 0, none⟩ (.int .i64 (n' : Int))).setCell ⟨b9, 1, none⟩ (.slice A' es'.length c')) := ((Fr.refl (fun x => x = b9) w3).setCell ⟨b9, 0, none⟩ _ fun _ => rfl).setCell ⟨b9, 1, none⟩ _ fun _ => rfl
    have hlt9 := c9.lt
    have HE := Lib.hid (hO'.fr hs fun x hx e => by have := hA' x hx; omega)
    have HG := Lib.hid hG'
    have hc9 : Cs ((w3.setCell ⟨b9, 0, none⟩ (.int .i64 (n' : Int))).setCell ⟨b9, 1, none⟩ (.slice A' es'.length c')) b9 #[.int .i64 (n' : Int), .slice A' es'.length c'] := (c9'.set 0 _).set 1 _
    have hf2 : Fr No w ((w3.setCell ⟨b9, 0, none⟩ (.int .i64 (n' : Int))).setCell ⟨b9, 1, none⟩ (.slice A' es'.length c')) := (f2.step hfr3).new hs fun x e => by rw [e]; exact hb9
    clear hO' hA' hG' hfr3 c9' hs f2 c9 HO HXX
    go_upto_region 4 with (fail)
    generalize (w3.setCell ⟨b9, 0, none⟩ (.int .i64 (n' : Int))).setCell ⟨b9, 1, none⟩ (.slice A' es'.length c') = w2' at HE hc9 hf2 ⊢
    clear r0 r1 z0 z1
    have g0 := hc9.cell 0
    have g1 := hc9.cell 1
    simp only [List.getElem?_toArray, List.getElem?_cons_zero, List.getElem?_cons_succ] at g0 g1
    have HGr := Lib.hid HG.out.gr
    clear hc9
    go_wp2_with fail
    refine (of_spec HG.out HE.out.rd).mono ?_
    rintro e w3 ⟨f, S, A3, c3, hT, rfl, hO3, hA3, hfr3⟩
    have HT := Lib.hid hT
    have g0 := hfr3.cell g0 id
    have g1 := hfr3.cell g1 id
    have f3 := hf2.step hfr3
    have HE3 := Lib.hid (HE.out.fr hfr3 fun _ _ => id)
    have HB3 := Lib.hid hO3
    clear hT hO3 hA3 hfr3 hf2
    go_wp2_with fail
    refine (largest_spec HG.out HE3.out.rd).mono ?_
    rintro e w4 ⟨g, A4, c4, x, y, hB4, rfl, hO4, hA4, hA40, hfr4⟩
    have HB4 := Lib.hid (And.intro hB4 hA40)
    have hal : Fr No w4 (w4.alloc (.cells #[.int .i64 x, .int .i64 y] 37)) := (Fr.refl _ _).alloc _
    have g0 := hal.cell (hfr4.cell g0 id) id
    have g1 := hal.cell (hfr4.cell g1 id) id
    have f4 := (f3.step hfr4).step hal
    have HE4 := Lib.hid ((HE3.out.fr hfr4 fun _ _ => id).fr hal fun _ _ => id)
    have HB34 := Lib.hid ((HB3.out.fr hfr4 fun _ _ => id).fr hal fun _ _ => id)
    have HM4 := Lib.hid (hO4.fr hal fun _ _ => id)
    clear hB4 hA40 hO4 hA4 hfr4 hal f3
    go_upto_region 6 with (fail)
    generalize w4.alloc (.cells #[.int .i64 x, .int .i64 y] 37) = w5 at g0 g1 f4 HE4 HB34 HM4 ⊢
    generalize w4.heap.size = b13 at *
    go_wp2_with fail
    refine (number_spec HG.out HE4.out.rd).mono ?_
    rintro e w6 ⟨h, hB6, rfl, hfr6⟩
    have HSZ := Lib.hid (hB6.size_eq HGr.out HB4.out.1)
    have g0 := hfr6.cell g0 id
    have g1 := hfr6.cell g1 id
    have f6 := f4.step hfr6
    have HE6 := Lib.hid (HE4.out.fr hfr6 fun _ _ => id)
    have HB36 := Lib.hid (HB34.out.fr hfr6 fun _ _ => id)
    have HM6 := Lib.hid (HM4.out.fr hfr6 fun _ _ => id)
    rw [HSZ.out]
    have hn6 := HG.out.n_le
    have hbl : (setOf n' S.aB).length ≤ n' := nodup_le (nodup_of_rises (setOf_rises n' S.aB)) setOf_lt
    have hbc := HB36.out.le
    have HRS := Lib.hid (setOf_rises n' S.aB)
    have HLT := Lib.hid (@setOf_lt n' S.aB)
    have HSH := Lib.hid (HT.out.shows HGr.out HB4.out.1)
    clear hB6 hfr6 f4
    generalize setOf n' S.aB = bs at HB36 hbl hbc HRS HLT HSH ⊢
    generalize hk : sizeOf' n' g = k at HSH ⊢
    have HK := Lib.hid hk
    clear hk
    go_wp2_with fail
    refine awake13_spec.mono ?_
    rintro e w7 ⟨rfl, hfr7⟩
    have g0 := hfr7.cell g0 id
    have g1 := hfr7.cell g1 id
    have f7 := f6.step hfr7
    have HE7 := Lib.hid (HE6.out.fr hfr7 fun _ _ => id)
    have HB37 := Lib.hid (HB36.out.fr hfr7 fun _ _ => id)
    have HM7 := Lib.hid (HM6.out.fr hfr7 fun _ _ => id)
    clear hfr7 f6
    go_wp2_with fail
    refine (rises_spec (by omega) HRS.out HB37.out.rd).mono ?_
    rintro e w8 ⟨rfl, hfr8⟩
    have g0 := hfr8.cell g0 id
    have g1 := hfr8.cell g1 id
    have f8 := f7.step hfr8
    have HE8 := Lib.hid (HE7.out.fr hfr8 fun _ _ => id)
    have HB38 := Lib.hid (HB37.out.fr hfr8 fun _ _ => id)
    have HM8 := Lib.hid (HM7.out.fr hfr8 fun _ _ => id)
    clear hfr8 f7
    go_wp2_with fail
    refine (shows13_spec HG.out HGr.out HE8.out.rd HB4.out.1.1 HM8.out HB4.out.2 (nodup_of_rises HRS.out) HLT.out HB38.out.rd hbc (by rw [HK.out]; exact HSH.out)).mono ?_
    rintro e w9 ⟨rfl, hfr9⟩
    have f9 := f8.step hfr9
    have HM9 := Lib.hid (HM8.out.fr hfr9 fun _ _ => id)
    clear hfr9 f8 g0 g1
    go_wp2_with fail
    refine (size8_spec hn6 HGr.out HB4.out.1.1 HM9.out).mono ?_
    rintro e wx ⟨rfl, hfrx⟩
    rw [HK.out]
    have fx := f9.step hfrx
    clear hfrx f9
    have e0 : ((k : Int) == (k : Int)) = true := by simp
    go_wp2_with fail
    go_ret
    exact ⟨rfl, fx⟩
  · have d2 : decide ((2 : Int) < (xs.length : Int)) = false := by simpa using h2
    have HG := Lib.hid HO.out.1
    have HE := Lib.hid HO.out.2
    go_upto_region 4 with (fail)
    have g0 := c9.cell 0
    have g1 := c9.cell 1
    simp only [List.getElem?_toArray, List.getElem?_cons_zero, List.getElem?_cons_succ] at g0 g1
    have HGr := Lib.hid HG.out.gr
    clear c9
    go_wp2_with fail
    refine (of_spec HG.out HE.out.rd).mono ?_
    rintro e w3 ⟨f, S, A3, c3, hT, rfl, hO3, hA3, hfr3⟩
    have HT := Lib.hid hT
    have g0 := hfr3.cell g0 id
    have g1 := hfr3.cell g1 id
    have f3 := f2.step hfr3
    have HE3 := Lib.hid (HE.out.fr hfr3 fun _ _ => id)
    have HB3 := Lib.hid hO3
    clear hT hO3 hA3 hfr3 f2
    go_wp2_with fail
    refine (largest_spec HG.out HE3.out.rd).mono ?_
    rintro e w4 ⟨g, A4, c4, x, y, hB4, rfl, hO4, hA4, hA40, hfr4⟩
    have HB4 := Lib.hid (And.intro hB4 hA40)
    have hal : Fr No w4 (w4.alloc (.cells #[.int .i64 x, .int .i64 y] 37)) := (Fr.refl _ _).alloc _
    have g0 := hal.cell (hfr4.cell g0 id) id
    have g1 := hal.cell (hfr4.cell g1 id) id
    have f4 := (f3.step hfr4).step hal
    have HE4 := Lib.hid ((HE3.out.fr hfr4 fun _ _ => id).fr hal fun _ _ => id)
    have HB34 := Lib.hid ((HB3.out.fr hfr4 fun _ _ => id).fr hal fun _ _ => id)
    have HM4 := Lib.hid (hO4.fr hal fun _ _ => id)
    clear hB4 hA40 hO4 hA4 hfr4 hal f3
    go_upto_region 6 with (fail)
    generalize w4.alloc (.cells #[.int .i64 x, .int .i64 y] 37) = w5 at g0 g1 f4 HE4 HB34 HM4 ⊢
    generalize w4.heap.size = b13 at *
    go_wp2_with fail
    refine (number_spec HG.out HE4.out.rd).mono ?_
    rintro e w6 ⟨h, hB6, rfl, hfr6⟩
    have HSZ := Lib.hid (hB6.size_eq HGr.out HB4.out.1)
    have g0 := hfr6.cell g0 id
    have g1 := hfr6.cell g1 id
    have f6 := f4.step hfr6
    have HE6 := Lib.hid (HE4.out.fr hfr6 fun _ _ => id)
    have HB36 := Lib.hid (HB34.out.fr hfr6 fun _ _ => id)
    have HM6 := Lib.hid (HM4.out.fr hfr6 fun _ _ => id)
    rw [HSZ.out]
    have hn6 := HG.out.n_le
    have hbl : (setOf n S.aB).length ≤ n := nodup_le (nodup_of_rises (setOf_rises n S.aB)) setOf_lt
    have hbc := HB36.out.le
    have HRS := Lib.hid (setOf_rises n S.aB)
    have HLT := Lib.hid (@setOf_lt n S.aB)
    have HSH := Lib.hid (HT.out.shows HGr.out HB4.out.1)
    clear hB6 hfr6 f4
    generalize setOf n S.aB = bs at HB36 hbl hbc HRS HLT HSH ⊢
    generalize hk : sizeOf' n g = k at HSH ⊢
    have HK := Lib.hid hk
    clear hk
    go_wp2_with fail
    refine awake13_spec.mono ?_
    rintro e w7 ⟨rfl, hfr7⟩
    have g0 := hfr7.cell g0 id
    have g1 := hfr7.cell g1 id
    have f7 := f6.step hfr7
    have HE7 := Lib.hid (HE6.out.fr hfr7 fun _ _ => id)
    have HB37 := Lib.hid (HB36.out.fr hfr7 fun _ _ => id)
    have HM7 := Lib.hid (HM6.out.fr hfr7 fun _ _ => id)
    clear hfr7 f6
    go_wp2_with fail
    refine (rises_spec (by omega) HRS.out HB37.out.rd).mono ?_
    rintro e w8 ⟨rfl, hfr8⟩
    have g0 := hfr8.cell g0 id
    have g1 := hfr8.cell g1 id
    have f8 := f7.step hfr8
    have HE8 := Lib.hid (HE7.out.fr hfr8 fun _ _ => id)
    have HB38 := Lib.hid (HB37.out.fr hfr8 fun _ _ => id)
    have HM8 := Lib.hid (HM7.out.fr hfr8 fun _ _ => id)
    clear hfr8 f7
    go_wp2_with fail
    refine (shows13_spec HG.out HGr.out HE8.out.rd HB4.out.1.1 HM8.out HB4.out.2 (nodup_of_rises HRS.out) HLT.out HB38.out.rd hbc (by rw [HK.out]; exact HSH.out)).mono ?_
    rintro e w9 ⟨rfl, hfr9⟩
    have f9 := f8.step hfr9
    have HM9 := Lib.hid (HM8.out.fr hfr9 fun _ _ => id)
    clear hfr9 f8 g0 g1
    go_wp2_with fail
    refine (size8_spec hn6 HGr.out HB4.out.1.1 HM9.out).mono ?_
    rintro e wx ⟨rfl, hfrx⟩
    rw [HK.out]
    have fx := f9.step hfrx
    clear hfrx f9
    have e0 : ((k : Int) == (k : Int)) = true := by simp
    go_wp2_with fail
    go_ret
    exact ⟨rfl, fx⟩
end Gar
