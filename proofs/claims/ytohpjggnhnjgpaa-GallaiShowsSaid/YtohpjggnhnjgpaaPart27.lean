/-
  PROVED: lemmas of the claim; no condition beyond what each one states.
  Walks: pieces.Without, gallai.Pieces.
-/
import Derived.Test.YtohpjggnhnjgpaaPart25
import Derived.Test.YtohpjggnhnjgpaaPart26
import Derived.Test.YtohpjggnhnjgpaaPart18
import Derived.Test.YtohpjggnhnjgpaaPart13
import Derived.Test.YtohpjggnhnjgpaaPart21
set_option linter.unusedVariables false
set_option linter.unusedSimpArgs false

namespace Gar
open Go Go.RowKit Go.Proofs
set_option maxRecDepth 100000
set_option maxHeartbeats 1600000
variable {w : World} {n : Nat} {es : List (Nat × Nat)}

theorem pwithout_spec {Ae Ao : Option Addr} {ce co : Nat} {out : List Nat} (hG : Good n es) (G : Gr n (adjOf es)) (hR : Rd w 2 Ae es.length (cellsOf es)) (hol : out.length ≤ 1000000) (hon : ∀ v ∈ out, v < n) (hout : Rd w 1 Ao out.length (out.map iv)) :
    Calls Try.prog 25 #[.agg #[.int .i64 (n : Int), .slice Ae es.length ce], .slice Ao out.length co] w (WithoutPost w n es (fun v => v < n ∧ v ∉ out)) := by
  have f1 : Fr No w (w.alloc (.cells #[.int .i64 (n : Int), .slice Ae es.length ce] 25)) := (Fr.refl _ _).alloc _
  have cg := Cs.new w 25 #[.int .i64 (n : Int), .slice Ae es.length ce]
  have g0 := cg.cell 0
  have g1 := cg.cell 1
  simp only [List.getElem?_toArray, List.getElem?_cons_zero, List.getElem?_cons_succ] at g0 g1
  have HG := Lib.hid hG
  have HGr := Lib.hid G
  have HR := Lib.hid (hR.fr f1 fun _ _ => id)
  have HB := Lib.hid (hout.fr f1 fun _ _ => id)
  have HON := Lib.hid hon
  clear hR hG G hout hon cg
  go_enter Try.func25, Try.ntmps25
  go_upto_region 1 with (fail)
  generalize w.alloc (.cells #[.int .i64 (n : Int), .slice Ae es.length ce] 25) = w1 at f1 g0 g1 HR HB ⊢
  generalize w.heap.size = b2 at g0 g1 ⊢
  go_wp2_with fail
  refine (right_spec HG.out HR.out).mono ?_
  rintro e w2 ⟨rfl, hfr2⟩
  have g0 := hfr2.cell g0 id
  have g1 := hfr2.cell g1 id
  have f2 := f1.step hfr2
  have HR2 := Lib.hid (HR.out.fr hfr2 fun _ _ => id)
  have HB2 := Lib.hid (HB.out.fr hfr2 fun _ _ => id)
  clear hfr2 f1
  go_wp2_with fail
  refine (lists_spec HG.out HR2.out).mono ?_
  rintro e w4 ⟨bn, An, cn, rfl, hbn, hOR, hfr4⟩
  have f4 := f2.step hfr4
  have HN4 := Lib.hid hOR.nearT2
  have HB4 := Lib.hid (HB2.out.fr hfr4 fun _ _ => id)
  clear hOR hfr4 f2 g0 g1
  go_wp2_with fail
  refine (pof_spec HG.out HGr.out HN4.out hol HON.out HB4.out).mono ?_
  rintro e w5 ⟨L, A, c, vals, hP, rfl, hO, hlens, hfr5, hAn⟩
  have f5 := f4.step hfr5
  have HX := Lib.hid (show Pieces n (adjOf es) (fun v => v < n ∧ v ∉ out) L ∧ Ow w5 1 A L.length c vals ∧ Lens vals L ∧ ∀ x, InA A x → w.heap.size ≤ x from ⟨hP, hO, hlens, fun x hx => Nat.le_trans f4.size (hAn x hx)⟩)
  clear hP hO hlens hfr5 hAn
  go_wp2_with fail
  go_ret
  exact ⟨L, A, c, vals, HX.out.1, rfl, HX.out.2.1, HX.out.2.2.1, f5, HX.out.2.2.2⟩

theorem concat2_spec {b c c2 c3 : Nat} {A2 A3 : Option Addr} {la lc q : List Nat} (hq : la ++ lc = q) (hf : q.length ≤ 1000000) (h0 : w.cell? ⟨b, 0, none⟩ = some (.slice A2 la.length c2)) (hr0 : Rd w 1 A2 la.length (la.map iv))
    (h1 : w.cell? ⟨b, 1, none⟩ = some (.slice A3 lc.length c3)) (hr1 : Rd w 1 A3 lc.length (lc.map iv)) :
    Calls Try.prog 26 #[.slice (some ⟨b, 0, none⟩) 2 c] w (fun e w' => ∃ A c, e = .returned (.slice A q.length c) ∧ Rd w' 1 A q.length (q.map iv) ∧ Fr No w w') := by
  subst hq
  have e : [la, lc].flatten = la ++ lc := by simp
  refine (concat_spec (L := [la, lc]) (b := b) (c := c) (by simp) (by rw [e]; exact hf) fun i l hl => ?_).mono ?_
  · match i, hl with
    | 0, hl => injection hl with hl; subst hl; exact ⟨A2, c2, h0, hr0⟩
    | 1, hl => injection hl with hl; subst hl; exact ⟨A3, c3, h1, hr1⟩
  · rintro e' w' ⟨x, rfl, ⟨A, c', rfl, hO, _⟩, hfr⟩
    rw [e] at hO ⊢
    exact ⟨A, c', rfl, hO.rd, hfr⟩

/-- What gallai.Pieces answers, by some labels. -/
def GpPost (w : World) (n : Nat) (es : List (Nat × Nat)) (e : Ending) (w' : World) : Prop :=
  ∃ f S L A c vals, Told n es f S ∧ Pieces n (adjOf es) (fun v => v < n ∧ v ∉ setOf n S.aB ++ setOf n S.cB) L ∧ e = .returned (.tuple #[.slice A L.length c, .int .i64 0]) ∧ Ow w' 1 A L.length c vals ∧ Lens vals L ∧ Fr No w w'

theorem gpieces_spec {Ae : Option Addr} {ce : Nat} (hG : Good n es) (hR : Rd w 2 Ae es.length (cellsOf es)) :
    Calls Try.prog 9 #[.agg #[.int .i64 (n : Int), .slice Ae es.length ce]] w (GpPost w n es) := by
  have f1 : Fr No w (w.alloc (.cells #[.int .i64 (n : Int), .slice Ae es.length ce] 25)) := (Fr.refl _ _).alloc _
  have cg := Cs.new w 25 #[.int .i64 (n : Int), .slice Ae es.length ce]
  have g0 := cg.cell 0
  have g1 := cg.cell 1
  simp only [List.getElem?_toArray, List.getElem?_cons_zero, List.getElem?_cons_succ] at g0 g1
  have hn := hG.n_le
  have HGr := Lib.hid hG.gr
  have HG := Lib.hid hG
  have HR := Lib.hid (hR.fr f1 fun _ _ => id)
  clear hR hG cg
  go_enter Try.func9, Try.ntmps9
  go_upto_region 1 with (fail)
  generalize w.alloc (.cells #[.int .i64 (n : Int), .slice Ae es.length ce] 25) = w1 at f1 g0 g1 HR ⊢
  generalize w.heap.size = b2 at g0 g1 ⊢
  go_wp2_with fail
  refine (gof_spec HG.out HR.out).mono ?_
  rintro e w2 ⟨f, S, A1, c1, A2, c2, A3, c3, hT, rfl, o1, o2, o3, hfr2⟩
  have hal : Fr No w2 (w2.alloc (.cells #[.slice A1 (setOf n S.dB).length c1, .slice A2 (setOf n S.aB).length c2, .slice A3 (setOf n S.cB).length c3] 29)) := (Fr.refl _ _).alloc _
  have ct := Cs.new w2 29 #[.slice A1 (setOf n S.dB).length c1, .slice A2 (setOf n S.aB).length c2, .slice A3 (setOf n S.cB).length c3]
  have r1 := ct.cell 1
  have r2 := ct.cell 2
  simp only [List.getElem?_toArray, List.getElem?_cons_zero, List.getElem?_cons_succ] at r1 r2
  have g0 := hal.cell (hfr2.cell g0 id) id
  have g1 := hal.cell (hfr2.cell g1 id) id
  have f2 := (f1.step hfr2).step hal
  have HR2 := Lib.hid ((HR.out.fr hfr2 fun _ _ => id).fr hal fun _ _ => id)
  have HA2 := Lib.hid (o2.rd.fr hal fun _ _ => id)
  have HC2 := Lib.hid (o3.rd.fr hal fun _ _ => id)
  have HT := Lib.hid hT
  have hb2l := World.block_lt_of_cell? _ _ (hfr2.cell (S := No) (by assumption) id)
  clear hT o1 o2 o3 ct hfr2 hal f1
  have hla : ∀ v ∈ setOf n S.aB ++ setOf n S.cB, v < n := fun v hv => by
    rcases List.mem_append.1 hv with h | h
    · exact setOf_lt v h
    · exact setOf_lt v h
  have hll : (setOf n S.aB ++ setOf n S.cB).length ≤ 1000000 := by
    have a : (setOf n S.aB).length ≤ n := nodup_le (nodup_of_rises (setOf_rises n S.aB)) setOf_lt
    have b : (setOf n S.cB).length ≤ n := nodup_le (nodup_of_rises (setOf_rises n S.cB)) setOf_lt
    rw [List.length_append]; omega
  have HLA := Lib.hid hla
  clear hla
  go_upto_region 2 with (fail)
  generalize w2.alloc (.cells #[.slice A1 (setOf n S.dB).length c1, .slice A2 (setOf n S.aB).length c2, .slice A3 (setOf n S.cB).length c3] 29) = w3 at g0 g1 r1 r2 f2 HR2 HA2 HC2 ⊢
  generalize w2.heap.size = bt at r1 r2 hb2l ⊢
  generalize hea : setOf n S.aB = la at HA2 HLA hll r1 ⊢
  generalize hec : setOf n S.cB = lc at HC2 HLA hll r2 ⊢
  generalize hq : la ++ lc = q at HLA hll ⊢
  have HQ := Lib.hid hq
  clear hq
  have HEA := Lib.hid hea
  have HEC := Lib.hid hec
  clear hea hec
  go_wp2_with fail
  go_region_held3 (fun w' => w'.cell? ⟨b2, 0, none⟩ = some (.int .i64 (n : Int)) ∧ w'.cell? ⟨b2, 1, none⟩ = some (.slice Ae es.length ce) ∧ w'.cell? ⟨bt, 1, none⟩ = some (.slice A2 la.length c2) ∧ w'.cell? ⟨bt, 2, none⟩ = some (.slice A3 lc.length c3))
    (first | (simp [*, World.cell?_alloc_some]; done) | (exact ⟨s1, s2, s3, s4⟩))
    (first
      | (go_at_call 26
         refine (concat2_spec (A2 := A2) (A3 := A3) (c2 := c2) (c3 := c3) HQ.out hll (cell_drew (World.cell?_alloc_new _ _ _ 0)) (HA2.out.fr (((Fr.refl No w3).alloc _).drew) fun _ _ => id) (cell_drew (World.cell?_alloc_new _ _ _ 1)) (HC2.out.fr (((Fr.refl No w3).alloc _).drew) fun _ _ => id)).mono ?_
         rintro e4 w4 ⟨A9, c9, rfl, hO9, hfr4⟩
         have d4 : Fr No w3 w4 := (((Fr.refl No w3).alloc _).drew).step hfr4
         have s1 := d4.cell g0 id; have s2 := d4.cell g1 id; have s3 := d4.cell r1 id; have s4 := d4.cell r2 id)
      | (go_at_call 25
         refine (pwithout_spec HG.out HGr.out (HR2.out.fr d4 fun _ _ => id) hll HLA.out hO9).mono ?_
         rintro e5 w5 ⟨L, A, c, vals, hP, rfl, hO, hlens, hfr5, hAn⟩
         have d5 : Fr No w3 w5 := d4.step hfr5
         have s1 := d5.cell g0 id; have s2 := d5.cell g1 id; have s3 := d5.cell r1 id; have s4 := d5.cell r2 id))
  have HX := Lib.hid (show Pieces n (adjOf es) (fun v => v < n ∧ v ∉ q) L ∧ Ow w5 1 A L.length c vals ∧ Lens vals L ∧ Fr No w w5 from ⟨hP, hO, hlens, f2.step d5⟩)
  clear hP hO hlens hAn hfr5 hfr4 s1 s2 s3 s4 d4 d5 f2 hO9
  go_wp2_with fail
  go_ret2
  exact ⟨f, S, L, A, c, vals, HT.out, by rw [HEA.out, HEC.out, HQ.out]; exact HX.out.1, rfl, HX.out.2.1, HX.out.2.2.1, HX.out.2.2.2⟩

end Gar
