/-
  PROVED: lemmas of the claim; no condition beyond what each one states.
  Walks: the statement GallaiShows.
-/
import Derived.Test.YtohpjggnhnjgpaaPart6
import Derived.Test.YtohpjggnhnjgpaaPart18
import Derived.Test.YtohpjggnhnjgpaaPart27
import Derived.Test.YtohpjggnhnjgpaaPart28
import Derived.Test.YtohpjggnhnjgpaaPart29
set_option linter.unusedVariables false
set_option linter.unusedSimpArgs false

namespace Gar
open Go Go.RowKit Go.Proofs
set_option maxRecDepth 100000
set_option maxHeartbeats 1600000
variable {w : World}

theorem gallai5_spec {x0 x1 x2 : Int} {Ax : Option Addr} {cx : Nat} {xs : List Int} (hx : Rd w 1 Ax xs.length (xs.map (Value.int .i64))) (hxl : (xs.length : Int) ≤ 9223372036854775807) :
    Calls Try.prog 3 #[.int .i64 x0, .int .i64 x1, .int .i64 x2, .slice Ax xs.length cx] w (fun e w' => e = .returned (.bool true) ∧ Fr No w w') := by
  have HX := Lib.hid hx
  clear hx
  go_enter Try.func3, Try.ntmps3
  go_wp2_with fail
  refine long_spec.mono ?_
  rintro e w1 ⟨n, es, A, c, hnV, hG, rfl, hO, hA, hfr1⟩
  have HO := Lib.hid (And.intro hG (hO.fr ((Fr.refl No _).alloc (.cells #[.int .i64 (n : Int), .slice A es.length c] 25)) fun _ _ => id))
  have HXX := Lib.hid ((HX.out.fr hfr1 fun _ _ => id).fr ((Fr.refl No _).alloc (.cells #[.int .i64 (n : Int), .slice A es.length c] 25)) fun _ _ => id)
  have c9 := Cs.new w1 25 #[.int .i64 (n : Int), .slice A es.length c]
  have f2 := hfr1.alloc (.cells #[.int .i64 (n : Int), .slice A es.length c] 25)
  have hb9 : w.heap.size ≤ w1.heap.size := hfr1.size
  clear hG hO hA hfr1
  go_upto_region 2 with (fail)
  generalize w1.alloc (.cells #[.int .i64 (n : Int), .slice A es.length c] 25) = w2 at HO HXX c9 f2 ⊢
  generalize w1.heap.size = b9 at c9 hb9 ⊢
  by_cases h2 : (2 : Int) < (xs.length : Int)
  · have d2 : decide ((2 : Int) < (xs.length : Int)) = true := by simpa using h2
    go_upto_region 3 with (fail)
    go_wp2_with fail
    refine (small_spec (V := 50) (E := 60) HXX.out hxl (by omega) (by omega)).mono ?_
    rintro e w3 ⟨n', es', A', c', hnV', hG', rfl, hO', hA', hfr3⟩
    have c9' := c9.fr hfr3 id
    have r0 := c9'.cell 0
    have r1 := c9'.cell 1
    have z0 := c9'.frozen 0
    have z1 := c9'.frozen 1
    simp only [List.getElem?_toArray, List.getElem?_cons_zero, List.getElem?_cons_succ] at r0 r1
    have hs : Fr (fun x => x = b9) w3 ((w3.setCell ⟨b9, 0, none⟩ (.int .i64 (n' : Int))).setCell ⟨b9, 1, none⟩ (.slice A' es'.length c')) := ((Fr.refl (fun x => x = b9) w3).setCell ⟨b9, 0, none⟩ _ fun _ => rfl).setCell ⟨b9, 1, none⟩ _ fun _ => rfl
    have hlt9 := c9.lt
    have HE := Lib.hid (hO'.fr hs fun x hx e => by have := hA' x hx; omega)
    have HG := Lib.hid hG'
    have hc9 : Cs ((w3.setCell ⟨b9, 0, none⟩ (.int .i64 (n' : Int))).setCell ⟨b9, 1, none⟩ (.slice A' es'.length c')) b9 #[.int .i64 (n' : Int), .slice A' es'.length c'] := (c9'.set 0 _).set 1 _
    have hf2 : Fr No w ((w3.setCell ⟨b9, 0, none⟩ (.int .i64 (n' : Int))).setCell ⟨b9, 1, none⟩ (.slice A' es'.length c')) := (f2.step hfr3).new hs fun x e => by rw [e]; exact hb9
    clear hO' hA' hG' hfr3 c9' hs f2 c9 HO HXX
    go_upto_region 4 with (fail)
    generalize (w3.setCell ⟨b9, 0, none⟩ (.int .i64 (n' : Int))).setCell ⟨b9, 1, none⟩ (.slice A' es'.length c') = w2' at HE hc9 hf2 ⊢
    clear r0 r1 z0 z1
    have g0 := hc9.cell 0
    have g1 := hc9.cell 1
    simp only [List.getElem?_toArray, List.getElem?_cons_zero, List.getElem?_cons_succ] at g0 g1
    have HGr := Lib.hid HG.out.gr
    clear hc9
    go_wp2_with fail
    refine (gof_spec HG.out HE.out.rd).mono ?_
    rintro e w3 ⟨f, S, A1, c1, A2, c2, A3, c3, hT, rfl, o1, o2, o3, hfr3⟩
    have hal : Fr No w3 (w3.alloc (.cells #[.slice A1 (setOf n' S.dB).length c1, .slice A2 (setOf n' S.aB).length c2, .slice A3 (setOf n' S.cB).length c3] 29)) := (Fr.refl _ _).alloc _
    have ct := Cs.new w3 29 #[.slice A1 (setOf n' S.dB).length c1, .slice A2 (setOf n' S.aB).length c2, .slice A3 (setOf n' S.cB).length c3]
    have r0 := ct.cell 0
    have r1 := ct.cell 1
    simp only [List.getElem?_toArray, List.getElem?_cons_zero, List.getElem?_cons_succ] at r0 r1
    have HT := Lib.hid hT
    have g0 := hal.cell (hfr3.cell g0 id) id
    have g1 := hal.cell (hfr3.cell g1 id) id
    have f3 := (hf2.step hfr3).step hal
    have HE3 := Lib.hid ((HE.out.fr hfr3 fun _ _ => id).fr hal fun _ _ => id)
    have HD3 := Lib.hid (o1.rd.fr hal fun _ _ => id)
    have HA3 := Lib.hid (And.intro (o2.rd.fr hal fun _ _ => id) o2.le)
    clear hT o1 o2 o3 hfr3 hal ct hf2
    go_upto_region 5 with (fail)
    generalize w3.alloc (.cells #[.slice A1 (setOf n' S.dB).length c1, .slice A2 (setOf n' S.aB).length c2, .slice A3 (setOf n' S.cB).length c3] 29) = w4 at r0 r1 g0 g1 f3 HE3 HD3 HA3 ⊢
    generalize w3.heap.size = bt at r0 r1 ⊢
    have hdl : (setOf n' S.dB).length ≤ n' := nodup_le (nodup_of_rises (setOf_rises n' S.dB)) setOf_lt
    have hal : (setOf n' S.aB).length ≤ n' := nodup_le (nodup_of_rises (setOf_rises n' S.aB)) setOf_lt
    have hn4 := HG.out.n_le
    have HRS := Lib.hid (setOf_rises n' S.aB)
    have HLT := Lib.hid (@setOf_lt n' S.aB)
    have HSH := Lib.hid (fun g (hg : Best n' es' g) => HT.out.shows HGr.out hg)
    have HLV := Lib.hid (fun g (hg : Best n' es' g) u (hu : u < n') (hm : g u = none) => HT.out.leaves HGr.out hg hu hm)
    have HGA := Lib.hid (fun f' g S' L (hT' : Told n' es' f' S') (hg : Best n' es' g) hL => HT.out.gallai' HGr.out hT' hg (L := L) hL)
    generalize setOf n' S.dB = ld at r0 hdl HD3 HLV ⊢
    generalize setOf n' S.aB = la at r1 hal HA3 HRS HLT HSH HGA ⊢
    go_wp2_with fail
    refine (gpieces_spec HG.out HE3.out.rd).mono ?_
    rintro e w5 ⟨f', S', L, A5, c5, vals, hT', hP, rfl, hO5, hlens, hfr5⟩
    have HP := Lib.hid (And.intro hT' hP)
    have HL5 := Lib.hid (And.intro hO5 hlens)
    have hLn := hP.count_le
    have r0 := hfr5.cell r0 id
    have r1 := hfr5.cell r1 id
    have g0 := hfr5.cell g0 id
    have g1 := hfr5.cell g1 id
    have f5 := f3.step hfr5
    have HE5 := Lib.hid (HE3.out.fr hfr5 fun _ _ => id)
    have HD5 := Lib.hid (HD3.out.fr hfr5 fun _ _ => id)
    have HA5 := Lib.hid (HA3.out.1.fr hfr5 fun _ _ => id)
    clear hT' hP hO5 hlens hfr5 f3
    go_wp2_with fail
    refine (largest_spec HG.out HE5.out.rd).mono ?_
    rintro e w6 ⟨g, A6, c6, x, y, hB6, rfl, hO6, hA6, hA60, hfr6⟩
    have HB6 := Lib.hid (And.intro hB6 hA60)
    have hal6 : Fr No w6 (w6.alloc (.cells #[.int .i64 x, .int .i64 y] 37)) := (Fr.refl _ _).alloc _
    have g0 := hal6.cell (hfr6.cell g0 id) id
    have g1 := hal6.cell (hfr6.cell g1 id) id
    have r0 := hal6.cell (hfr6.cell r0 id) id
    have r1 := hal6.cell (hfr6.cell r1 id) id
    have f6 := (f5.step hfr6).step hal6
    have HE6 := Lib.hid ((HE5.out.fr hfr6 fun _ _ => id).fr hal6 fun _ _ => id)
    have HD6 := Lib.hid ((HD5.out.fr hfr6 fun _ _ => id).fr hal6 fun _ _ => id)
    have HA6 := Lib.hid ((HA5.out.fr hfr6 fun _ _ => id).fr hal6 fun _ _ => id)
    have HL6 := Lib.hid (And.intro ((HL5.out.1.fr hfr6 fun _ _ => id).fr hal6 fun _ _ => id) HL5.out.2)
    have HM6 := Lib.hid (hO6.fr hal6 fun _ _ => id)
    clear hB6 hA60 hO6 hA6 hfr6 hal6 f5
    go_upto_region 7 with (fail)
    generalize w6.alloc (.cells #[.int .i64 x, .int .i64 y] 37) = w7 at g0 g1 r0 r1 f6 HE6 HD6 HA6 HL6 HM6 ⊢
    generalize w6.heap.size = b15 at *
    go_wp2_with fail
    refine awake14_spec.mono ?_
    rintro e w8 ⟨rfl, hfr8⟩
    have g0 := hfr8.cell g0 id
    have g1 := hfr8.cell g1 id
    have r0 := hfr8.cell r0 id
    have r1 := hfr8.cell r1 id
    have f8 := f6.step hfr8
    have HE8 := Lib.hid (HE6.out.fr hfr8 fun _ _ => id)
    have HD8 := Lib.hid (HD6.out.fr hfr8 fun _ _ => id)
    have HA8 := Lib.hid (HA6.out.fr hfr8 fun _ _ => id)
    have HL8 := Lib.hid (And.intro (HL6.out.1.fr hfr8 fun _ _ => id) HL6.out.2)
    have HM8 := Lib.hid (HM6.out.fr hfr8 fun _ _ => id)
    clear hfr8 f6
    go_wp2_with fail
    refine (shows13_spec HG.out HGr.out HE8.out.rd HB6.out.1.1 HM8.out HB6.out.2 (nodup_of_rises HRS.out) HLT.out HA8.out HA3.out.2 (HSH.out g HB6.out.1)).mono ?_
    rintro e w9 ⟨rfl, hfr9⟩
    have r0 := hfr9.cell r0 id
    have r1 := hfr9.cell r1 id
    have f9 := f8.step hfr9
    have HD9 := Lib.hid (HD8.out.fr hfr9 fun _ _ => id)
    have HL9 := Lib.hid (And.intro (HL8.out.1.fr hfr9 fun _ _ => id) HL8.out.2)
    have HM9 := Lib.hid (HM8.out.fr hfr9 fun _ _ => id)
    clear hfr9 f8 g0 g1
    go_wp2_with fail
    refine (free8_spec (f := g) (by omega) (fun v u h => (HB6.out.1.1.lt v u h).2) HM9.out HB6.out.2).mono ?_
    rintro e wa ⟨z, rfl, ⟨Af, cf, rfl, hOf, hAf⟩, hfra⟩
    have r0 := hfra.cell r0 id
    have r1 := hfra.cell r1 id
    have fa := f9.step hfra
    have HDa := Lib.hid (HD9.out.fr hfra fun _ _ => id)
    have HLa := Lib.hid (And.intro (HL9.out.1.fr hfra fun _ _ => id) HL9.out.2)
    have HF := Lib.hid hOf.rd
    have hGA := HGA.out f' g S' L HP.out.1 HB6.out.1 HP.out.2
    have HMM := Lib.hid (show ∀ u ∈ freeOf n' g, u ∈ ld from fun u hu => HLV.out g HB6.out.1 u (mem_freeOf.1 hu).1 (mem_freeOf.1 hu).2)
    have hfl : (freeOf n' g).length ≤ n' := nodup_le (nodup_freeOf n' g) fun u hu => (mem_freeOf.1 hu).1
    have hle := hGA.2
    have HOD := Lib.hid hGA.1
    clear hOf hAf hfra f9 hGA
    generalize freeOf n' g = lf at HF HMM hfl hle ⊢
    have HLE := Lib.hid hle
    clear hle
    go_wp2_with fail
    go_loopg [18] lf.length (SmRel wa lf.length)
    case atStart => exact ⟨0, rfl, by omega, rfl, Fr.refl _ _⟩
    case round =>
      obtain ⟨i, rfl, hi, hg, hfr⟩ := hrel
      have HGK := Lib.hid hg
      have q0 := hfr.cell r0 id
      have q1 := hfr.cell r1 id
      clear hg
      by_cases hlt : i < lf.length
      · obtain ⟨bb, ob, rfl, hc⟩ := (HF.out.fr hfr fun _ _ => id).at_ (by rw [List.length_map]; omega)
        have h1 := hc i (iv lf[i]) (by simp [hlt])
        have HYM := Lib.hid (HMM.out _ (List.getElem_mem hlt))
        have hii : (i : Int) < (lf.length : Int) := by omega
        clear hc
        generalize lf[i] = y at h1 HYM
        simp only [iv] at h1
        go_wp2_with fail
        go_region_held3 (fun w' => w'.cell? ⟨bt, 0, none⟩ = some (.slice A1 ld.length c1) ∧ w'.cell? ⟨bb, ob + i, none⟩ = some (.int .i64 (y : Int)))
          (first | (simp [*]; done) | (exact ⟨s1, s2⟩))
          ((go_at_call 14; refine (in_spec (l := ld) (by omega) (HDa.out.fr hfr.drew fun _ _ => id)).mono ?_; rintro e wb ⟨rfl, rfl⟩; rw [decide_eq_true HYM.out]; have s1 := cell_drew q0; have s2 := cell_drew h1))
        go_wp2_with fail
        go_roundg (lf.length - (i + 1))
        case measure => rw [HGK.out]; omega
        case rel => exact ⟨i + 1, rfl, by omega, rfl, hfr.drew⟩
      · have : i = lf.length := by omega
        subst this
        have HLb := Lib.hid (And.intro (HLa.out.1.fr hfr fun _ _ => id) HLa.out.2)
        have fb := fa.step hfr
        go_wp2_with fail
        go_loopg [19] L.length (SmRel wr L.length)
        case atStart => exact ⟨0, rfl, by omega, rfl, Fr.refl _ _⟩
        case round =>
          clear fa hfr q0
          obtain ⟨i, rfl, hi, hg, hfr⟩ := hrel
          have HGK := Lib.hid hg
          have q1 := hfr.cell q1 id
          clear hg
          by_cases hlt : i < L.length
          · obtain ⟨Al, cl, hv⟩ := HLb.out.2.2 i L[i] (List.getElem?_eq_getElem hlt)
            obtain ⟨bl, ol, rfl⟩ := HLb.out.1.some (by omega)
            have h1 := ((HLb.out.1.fr hfr fun _ _ => id).cellAt hv).1
            have hod := HOD.out _ (List.getElem_mem hlt)
            have hpl := HP.out.2.len_le (List.getElem_mem hlt)
            have hii : (i : Int) < (L.length : Int) := by omega
            generalize L[i].length = m at h1 hod hpl
            have e0 : ((m : Int) % 2 == 0) = false := by simp; omega
            have e1 : ((m : Int).tmod 2 == 0) = false := by rw [Int.tmod_eq_emod_of_nonneg (by omega)]; exact e0
            have HOD1 := Lib.hid hod
            clear hod hv
            go_wp2_with fail
            go_roundg (L.length - (i + 1))
            case measure => rw [HGK.out]; omega
            case rel => exact ⟨i + 1, rfl, by omega, rfl, hfr⟩
          · have : i = L.length := by omega
            subst this
            have hle := HLE.out
            have e0 : ((L.length : Int) == (la.length : Int) + (lf.length : Int)) = true := by simp only [beq_iff_eq]; omega
            clear hle
            go_wp2_with fail
            go_ret
            exact ⟨rfl, fb.step hfr⟩
  · have d2 : decide ((2 : Int) < (xs.length : Int)) = false := by simpa using h2
    have HG := Lib.hid HO.out.1
    have HE := Lib.hid HO.out.2
    go_upto_region 4 with (fail)
    have g0 := c9.cell 0
    have g1 := c9.cell 1
    simp only [List.getElem?_toArray, List.getElem?_cons_zero, List.getElem?_cons_succ] at g0 g1
    have HGr := Lib.hid HG.out.gr
    clear c9
    go_wp2_with fail
    refine (gof_spec HG.out HE.out.rd).mono ?_
    rintro e w3 ⟨f, S, A1, c1, A2, c2, A3, c3, hT, rfl, o1, o2, o3, hfr3⟩
    have hal : Fr No w3 (w3.alloc (.cells #[.slice A1 (setOf n S.dB).length c1, .slice A2 (setOf n S.aB).length c2, .slice A3 (setOf n S.cB).length c3] 29)) := (Fr.refl _ _).alloc _
    have ct := Cs.new w3 29 #[.slice A1 (setOf n S.dB).length c1, .slice A2 (setOf n S.aB).length c2, .slice A3 (setOf n S.cB).length c3]
    have r0 := ct.cell 0
    have r1 := ct.cell 1
    simp only [List.getElem?_toArray, List.getElem?_cons_zero, List.getElem?_cons_succ] at r0 r1
    have HT := Lib.hid hT
    have g0 := hal.cell (hfr3.cell g0 id) id
    have g1 := hal.cell (hfr3.cell g1 id) id
    have f3 := (f2.step hfr3).step hal
    have HE3 := Lib.hid ((HE.out.fr hfr3 fun _ _ => id).fr hal fun _ _ => id)
    have HD3 := Lib.hid (o1.rd.fr hal fun _ _ => id)
    have HA3 := Lib.hid (And.intro (o2.rd.fr hal fun _ _ => id) o2.le)
    clear hT o1 o2 o3 hfr3 hal ct f2
    go_upto_region 5 with (fail)
    generalize w3.alloc (.cells #[.slice A1 (setOf n S.dB).length c1, .slice A2 (setOf n S.aB).length c2, .slice A3 (setOf n S.cB).length c3] 29) = w4 at r0 r1 g0 g1 f3 HE3 HD3 HA3 ⊢
    generalize w3.heap.size = bt at r0 r1 ⊢
    have hdl : (setOf n S.dB).length ≤ n := nodup_le (nodup_of_rises (setOf_rises n S.dB)) setOf_lt
    have hal : (setOf n S.aB).length ≤ n := nodup_le (nodup_of_rises (setOf_rises n S.aB)) setOf_lt
    have hn4 := HG.out.n_le
    have HRS := Lib.hid (setOf_rises n S.aB)
    have HLT := Lib.hid (@setOf_lt n S.aB)
    have HSH := Lib.hid (fun g (hg : Best n es g) => HT.out.shows HGr.out hg)
    have HLV := Lib.hid (fun g (hg : Best n es g) u (hu : u < n) (hm : g u = none) => HT.out.leaves HGr.out hg hu hm)
    have HGA := Lib.hid (fun f' g S' L (hT' : Told n es f' S') (hg : Best n es g) hL => HT.out.gallai' HGr.out hT' hg (L := L) hL)
    generalize setOf n S.dB = ld at r0 hdl HD3 HLV ⊢
    generalize setOf n S.aB = la at r1 hal HA3 HRS HLT HSH HGA ⊢
    go_wp2_with fail
    refine (gpieces_spec HG.out HE3.out.rd).mono ?_
    rintro e w5 ⟨f', S', L, A5, c5, vals, hT', hP, rfl, hO5, hlens, hfr5⟩
    have HP := Lib.hid (And.intro hT' hP)
    have HL5 := Lib.hid (And.intro hO5 hlens)
    have hLn := hP.count_le
    have r0 := hfr5.cell r0 id
    have r1 := hfr5.cell r1 id
    have g0 := hfr5.cell g0 id
    have g1 := hfr5.cell g1 id
    have f5 := f3.step hfr5
    have HE5 := Lib.hid (HE3.out.fr hfr5 fun _ _ => id)
    have HD5 := Lib.hid (HD3.out.fr hfr5 fun _ _ => id)
    have HA5 := Lib.hid (HA3.out.1.fr hfr5 fun _ _ => id)
    clear hT' hP hO5 hlens hfr5 f3
    go_wp2_with fail
    refine (largest_spec HG.out HE5.out.rd).mono ?_
    rintro e w6 ⟨g, A6, c6, x, y, hB6, rfl, hO6, hA6, hA60, hfr6⟩
    have HB6 := Lib.hid (And.intro hB6 hA60)
    have hal6 : Fr No w6 (w6.alloc (.cells #[.int .i64 x, .int .i64 y] 37)) := (Fr.refl _ _).alloc _
    have g0 := hal6.cell (hfr6.cell g0 id) id
    have g1 := hal6.cell (hfr6.cell g1 id) id
    have r0 := hal6.cell (hfr6.cell r0 id) id
    have r1 := hal6.cell (hfr6.cell r1 id) id
    have f6 := (f5.step hfr6).step hal6
    have HE6 := Lib.hid ((HE5.out.fr hfr6 fun _ _ => id).fr hal6 fun _ _ => id)
    have HD6 := Lib.hid ((HD5.out.fr hfr6 fun _ _ => id).fr hal6 fun _ _ => id)
    have HA6 := Lib.hid ((HA5.out.fr hfr6 fun _ _ => id).fr hal6 fun _ _ => id)
    have HL6 := Lib.hid (And.intro ((HL5.out.1.fr hfr6 fun _ _ => id).fr hal6 fun _ _ => id) HL5.out.2)
    have HM6 := Lib.hid (hO6.fr hal6 fun _ _ => id)
    clear hB6 hA60 hO6 hA6 hfr6 hal6 f5
    go_upto_region 7 with (fail)
    generalize w6.alloc (.cells #[.int .i64 x, .int .i64 y] 37) = w7 at g0 g1 r0 r1 f6 HE6 HD6 HA6 HL6 HM6 ⊢
    generalize w6.heap.size = b15 at *
    go_wp2_with fail
    refine awake14_spec.mono ?_
    rintro e w8 ⟨rfl, hfr8⟩
    have g0 := hfr8.cell g0 id
    have g1 := hfr8.cell g1 id
    have r0 := hfr8.cell r0 id
    have r1 := hfr8.cell r1 id
    have f8 := f6.step hfr8
    have HE8 := Lib.hid (HE6.out.fr hfr8 fun _ _ => id)
    have HD8 := Lib.hid (HD6.out.fr hfr8 fun _ _ => id)
    have HA8 := Lib.hid (HA6.out.fr hfr8 fun _ _ => id)
    have HL8 := Lib.hid (And.intro (HL6.out.1.fr hfr8 fun _ _ => id) HL6.out.2)
    have HM8 := Lib.hid (HM6.out.fr hfr8 fun _ _ => id)
    clear hfr8 f6
    go_wp2_with fail
    refine (shows13_spec HG.out HGr.out HE8.out.rd HB6.out.1.1 HM8.out HB6.out.2 (nodup_of_rises HRS.out) HLT.out HA8.out HA3.out.2 (HSH.out g HB6.out.1)).mono ?_
    rintro e w9 ⟨rfl, hfr9⟩
    have r0 := hfr9.cell r0 id
    have r1 := hfr9.cell r1 id
    have f9 := f8.step hfr9
    have HD9 := Lib.hid (HD8.out.fr hfr9 fun _ _ => id)
    have HL9 := Lib.hid (And.intro (HL8.out.1.fr hfr9 fun _ _ => id) HL8.out.2)
    have HM9 := Lib.hid (HM8.out.fr hfr9 fun _ _ => id)
    clear hfr9 f8 g0 g1
    go_wp2_with fail
    refine (free8_spec (f := g) (by omega) (fun v u h => (HB6.out.1.1.lt v u h).2) HM9.out HB6.out.2).mono ?_
    rintro e wa ⟨z, rfl, ⟨Af, cf, rfl, hOf, hAf⟩, hfra⟩
    have r0 := hfra.cell r0 id
    have r1 := hfra.cell r1 id
    have fa := f9.step hfra
    have HDa := Lib.hid (HD9.out.fr hfra fun _ _ => id)
    have HLa := Lib.hid (And.intro (HL9.out.1.fr hfra fun _ _ => id) HL9.out.2)
    have HF := Lib.hid hOf.rd
    have hGA := HGA.out f' g S' L HP.out.1 HB6.out.1 HP.out.2
    have HMM := Lib.hid (show ∀ u ∈ freeOf n g, u ∈ ld from fun u hu => HLV.out g HB6.out.1 u (mem_freeOf.1 hu).1 (mem_freeOf.1 hu).2)
    have hfl : (freeOf n g).length ≤ n := nodup_le (nodup_freeOf n g) fun u hu => (mem_freeOf.1 hu).1
    have hle := hGA.2
    have HOD := Lib.hid hGA.1
    clear hOf hAf hfra f9 hGA
    generalize freeOf n g = lf at HF HMM hfl hle ⊢
    have HLE := Lib.hid hle
    clear hle
    go_wp2_with fail
    go_loopg [18] lf.length (SmRel wa lf.length)
    case atStart => exact ⟨0, rfl, by omega, rfl, Fr.refl _ _⟩
    case round =>
      obtain ⟨i, rfl, hi, hg, hfr⟩ := hrel
      have HGK := Lib.hid hg
      have q0 := hfr.cell r0 id
      have q1 := hfr.cell r1 id
      clear hg
      by_cases hlt : i < lf.length
      · obtain ⟨bb, ob, rfl, hc⟩ := (HF.out.fr hfr fun _ _ => id).at_ (by rw [List.length_map]; omega)
        have h1 := hc i (iv lf[i]) (by simp [hlt])
        have HYM := Lib.hid (HMM.out _ (List.getElem_mem hlt))
        have hii : (i : Int) < (lf.length : Int) := by omega
        clear hc
        generalize lf[i] = y at h1 HYM
        simp only [iv] at h1
        go_wp2_with fail
        go_region_held3 (fun w' => w'.cell? ⟨bt, 0, none⟩ = some (.slice A1 ld.length c1) ∧ w'.cell? ⟨bb, ob + i, none⟩ = some (.int .i64 (y : Int)))
          (first | (simp [*]; done) | (exact ⟨s1, s2⟩))
          ((go_at_call 14; refine (in_spec (l := ld) (by omega) (HDa.out.fr hfr.drew fun _ _ => id)).mono ?_; rintro e wb ⟨rfl, rfl⟩; rw [decide_eq_true HYM.out]; have s1 := cell_drew q0; have s2 := cell_drew h1))
        go_wp2_with fail
        go_roundg (lf.length - (i + 1))
        case measure => rw [HGK.out]; omega
        case rel => exact ⟨i + 1, rfl, by omega, rfl, hfr.drew⟩
      · have : i = lf.length := by omega
        subst this
        have HLb := Lib.hid (And.intro (HLa.out.1.fr hfr fun _ _ => id) HLa.out.2)
        have fb := fa.step hfr
        go_wp2_with fail
        go_loopg [19] L.length (SmRel wr L.length)
        case atStart => exact ⟨0, rfl, by omega, rfl, Fr.refl _ _⟩
        case round =>
          clear fa hfr q0
          obtain ⟨i, rfl, hi, hg, hfr⟩ := hrel
          have HGK := Lib.hid hg
          have q1 := hfr.cell q1 id
          clear hg
          by_cases hlt : i < L.length
          · obtain ⟨Al, cl, hv⟩ := HLb.out.2.2 i L[i] (List.getElem?_eq_getElem hlt)
            obtain ⟨bl, ol, rfl⟩ := HLb.out.1.some (by omega)
            have h1 := ((HLb.out.1.fr hfr fun _ _ => id).cellAt hv).1
            have hod := HOD.out _ (List.getElem_mem hlt)
            have hpl := HP.out.2.len_le (List.getElem_mem hlt)
            have hii : (i : Int) < (L.length : Int) := by omega
            generalize L[i].length = m at h1 hod hpl
            have e0 : ((m : Int) % 2 == 0) = false := by simp; omega
            have e1 : ((m : Int).tmod 2 == 0) = false := by rw [Int.tmod_eq_emod_of_nonneg (by omega)]; exact e0
            have HOD1 := Lib.hid hod
            clear hod hv
            go_wp2_with fail
            go_roundg (L.length - (i + 1))
            case measure => rw [HGK.out]; omega
            case rel => exact ⟨i + 1, rfl, by omega, rfl, hfr⟩
          · have : i = L.length := by omega
            subst this
            have hle := HLE.out
            have e0 : ((L.length : Int) == (la.length : Int) + (lf.length : Int)) = true := by simp only [beq_iff_eq]; omega
            clear hle
            go_wp2_with fail
            go_ret
            exact ⟨rfl, fb.step hfr⟩

end Gar
