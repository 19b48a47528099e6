/-
  PROVED: lemmas of the claim; no condition beyond what each one states.
  Walks: the statement BarrierShows.
-/
import Derived.Test.YtohpjggnhnjgpaaPart23
import Derived.Test.YtohpjggnhnjgpaaPart22
import Derived.Test.YtohpjggnhnjgpaaPart19
import Derived.Test.YtohpjggnhnjgpaaPart21
set_option linter.unusedVariables false
set_option linter.unusedSimpArgs false

namespace Gar
open Go Go.RowKit Go.Proofs
set_option maxRecDepth 100000
set_option maxHeartbeats 1600000
variable {w : World}

theorem shows5_spec {x0 : Int} {Ax : Option Addr} {cx : Nat} {xs : List Int} (hx : Rd w 1 Ax xs.length (xs.map (Value.int .i64))) (hxl : (xs.length : Int) ≤ 9223372036854775807) :
    Calls Try.prog 4 #[.int .i64 x0, .slice Ax xs.length cx] w (fun e w' => e = .returned (.bool true) ∧ Fr No w w') := by
  have HX := Lib.hid hx
  clear hx
  go_enter Try.func4, Try.ntmps4
  go_wp2_with fail
  refine (small_spec (V := 11) (E := 40) HX.out hxl (by omega) (by omega)).mono ?_
  rintro e w1 ⟨n, es, A, c, hnV, hG, rfl, hO, hA, hfr1⟩
  have HE := Lib.hid (hO.fr ((Fr.refl No _).alloc (.cells #[.int .i64 (n : Int), .slice A es.length c] 25)) fun _ _ => id)
  have HG := Lib.hid hG
  have HGr := Lib.hid hG.gr
  have c9 := Cs.new w1 25 #[.int .i64 (n : Int), .slice A es.length c]
  have f2 := hfr1.alloc (.cells #[.int .i64 (n : Int), .slice A es.length c] 25)
  have g0 := c9.cell 0
  have g1 := c9.cell 1
  simp only [List.getElem?_toArray, List.getElem?_cons_zero, List.getElem?_cons_succ] at g0 g1
  clear hG hO hA hfr1 c9 HX
  go_upto_region 2 with (fail)
  generalize w1.alloc (.cells #[.int .i64 (n : Int), .slice A es.length c] 25) = w2 at HE g0 g1 f2 ⊢
  generalize w1.heap.size = b9 at g0 g1 ⊢
  go_wp2_with fail
  refine (number_spec HG.out HE.out.rd).mono ?_
  rintro e w3 ⟨h, hB, rfl, hfr3⟩
  have HB := Lib.hid hB
  have g0 := hfr3.cell g0 id
  have g1 := hfr3.cell g1 id
  have f3 := f2.step hfr3
  have HE3 := Lib.hid (HE.out.fr hfr3 fun _ _ => id)
  have hmt : 2 * sizeOf' n h + (freeOf n h).length = n := by
    have a := free_matched n h
    rw [matched_two HGr.out hB.1] at a
    omega
  have HMT := Lib.hid hmt
  have hkn : sizeOf' n h ≤ n := by omega
  clear hB hfr3 f2 hmt
  generalize sizeOf' n h = k at hkn HMT ⊢
  go_wp2_with fail
  refine (of_spec HG.out HE3.out.rd).mono ?_
  rintro e w4 ⟨f, S, A3, c3, hT, rfl, hO3, hA3, hfr4⟩
  have HT := Lib.hid hT
  have g0 := hfr4.cell g0 id
  have g1 := hfr4.cell g1 id
  have f4 := f3.step hfr4
  have HE4 := Lib.hid (HE3.out.fr hfr4 fun _ _ => id)
  have HB4 := Lib.hid hO3
  have HSM := Lib.hid (hT.best.same HGr.out HB.out)
  have hbl : (setOf n S.aB).length ≤ n := nodup_le (nodup_of_rises (setOf_rises n S.aB)) setOf_lt
  have hbc := HB4.out.le
  have HRS := Lib.hid (setOf_rises n S.aB)
  have HLT := Lib.hid (@setOf_lt n S.aB)
  have HLK := Lib.hid (fun L hL => hT.lack HGr.out (L := L) hL)
  clear hT hO3 hA3 hfr4 f3
  generalize setOf n S.aB = bs at HB4 hbl hbc HRS HLT HLK ⊢
  go_wp2_with fail
  refine (lack_spec HG.out HE4.out.rd (nodup_of_rises HRS.out) HLT.out HB4.out.rd hbc).mono ?_
  rintro e w5 ⟨L, hL, rfl, hfr5⟩
  have hq : ((sumOdd L : Nat) : Int) - (bs.length : Int) = ((freeOf n h).length : Int) := by
    have a := HLK.out L hL
    have b := HSM.out
    omega
  rw [hq]
  have g0 := hfr5.cell g0 id
  have g1 := hfr5.cell g1 id
  have f5 := f4.step hfr5
  have HE5 := Lib.hid (HE4.out.fr hfr5 fun _ _ => id)
  have HB5 := Lib.hid (HB4.out.fr hfr5 fun _ _ => id)
  have hqn : (freeOf n h).length ≤ n := by have := HMT.out; omega
  clear hq hL hfr5 f4
  generalize hfq : (freeOf n h).length = q at HMT hqn ⊢
  have HFQ := Lib.hid hfq
  clear hfq
  go_wp2_with fail
  refine awake13_spec.mono ?_
  rintro e w6 ⟨rfl, hfr6⟩
  have g0 := hfr6.cell g0 id
  have g1 := hfr6.cell g1 id
  have f6 := f5.step hfr6
  have HE6 := Lib.hid (HE5.out.fr hfr6 fun _ _ => id)
  have HB6 := Lib.hid (HB5.out.fr hfr6 fun _ _ => id)
  clear hfr6 f5
  go_wp2_with fail
  refine (number13_spec HG.out hnV HE6.out.rd).mono ?_
  rintro e w7 ⟨k2, rfl, hV, hfr7⟩
  have hk2 : k2 = k := by
    have a := hV.all HGr.out HB.out
    have b := HMT.out
    have c := HFQ.out
    omega
  subst hk2
  have g0 := hfr7.cell g0 id
  have f7 := f6.step hfr7
  have HB7 := Lib.hid (HB6.out.fr hfr7 fun _ _ => id)
  have e0 : ((k2 : Int) == (k2 : Int)) = true := by simp
  clear hfr7 f6 g1 hV
  go_wp2_with fail
  refine (rises_spec (by omega) HRS.out HB7.out.rd).mono ?_
  rintro e w8 ⟨rfl, hfr8⟩
  have g0 := hfr8.cell g0 id
  have f8 := f7.step hfr8
  have e1 : (2 * (k2 : Int) == (n : Int) - (q : Int)) = true := by
    have b := HMT.out
    simp only [beq_iff_eq]; omega
  clear hfr8 f7
  go_wp2_with fail
  go_ret
  exact ⟨rfl, f8⟩

end Gar
