/-
  PROVED: lemmas of the claim; no condition beyond what each one states.
  Walks: Small.
-/
import Derived.Test.YtohpjggnhnjgpaaPart2
set_option linter.unusedVariables false
set_option linter.unusedSimpArgs false

namespace Gar
open Go Go.RowKit Go.Proofs
set_option maxRecDepth 100000
set_option maxHeartbeats 1600000
variable {w : World} {n : Nat} {es : List (Nat × Nat)}

/-- What Add hands back, in one form. -/
theorem AddPost.uni {e : Ending} {w' : World} (h : AddPost w n e w') : ∃ (X : Int) (A : Option Addr) (L c : Nat) (k : Int), e = .returned (.tuple #[.agg #[.int .i64 X, .slice A L c], .int .i64 k]) ∧ Fr No w w' ∧
    (k ≠ 0 ∨ (k = 0 ∧ X = (n : Int) ∧ ∃ es', L = es'.length ∧ Good n es' ∧ Ow w' 2 A es'.length c (cellsOf es') ∧ ∀ x, InA A x → w.heap.size ≤ x)) := by
  obtain ⟨hf, ⟨k, hk, rfl⟩ | ⟨es', A, c, h1, rfl, h2, h3⟩⟩ := h
  · exact ⟨0, none, 0, 0, k, rfl, hf, .inl hk⟩
  · exact ⟨n, A, es'.length, c, 0, rfl, hf, .inr ⟨rfl, rfl, es', rfl, h1, h2, h3⟩⟩

/-- A graph of one's own that is handed back. -/
def GraphPost (w : World) (V : Nat) (e : Ending) (w' : World) : Prop :=
  ∃ n es A c, n ≤ V ∧ Good n es ∧ e = .returned (.agg #[.int .i64 (n : Int), .slice A es.length c]) ∧ Ow w' 2 A es.length c (cellsOf es) ∧ (∀ x, InA A x → w.heap.size ≤ x) ∧ Fr No w w'

theorem umod_nat (x : Int) (m : Nat) (hm : 0 < m) : ∃ r : Nat, (IntKind.u64.wrap x).tmod (m : Int) = (r : Int) ∧ r < m := by
  have h0 : 0 ≤ IntKind.u64.wrap x := by rw [IntKind.wrap_u64]; omega
  have h1 := Int.emod_nonneg (IntKind.u64.wrap x) (show (m : Int) ≠ 0 by omega)
  have h2 := Int.emod_lt_of_pos (IntKind.u64.wrap x) (show (0 : Int) < (m : Int) by omega)
  refine ⟨(IntKind.u64.wrap x % (m : Int)).toNat, ?_, ?_⟩
  · rw [Int.tmod_eq_emod_of_nonneg h0]; omega
  · omega
theorem wrap64_nat {n : Nat} (h : n < 9223372036854775808) : wrap64 (n : Int) = (n : Int) := by
  unfold wrap64; omega

/-- A graph in block b: how many vertices, and its edges. -/
structure GBox (wr : World) (B b n : Nat) (es : List (Nat × Nat)) (A : Option Addr) (c : Nat) : Prop where
  cs : Cs wr b #[.int .i64 (n : Int), .slice A es.length c]
  good : Good n es
  own : Ow wr 2 A es.length c (cellsOf es)
  far : ∀ x, InA A x → x ≠ b ∧ B ≤ x

theorem GBox.fr {wr w' : World} {B b : Nat} {A : Option Addr} {c : Nat} (h : GBox wr B b n es A c) (k : Fr No wr w') : GBox w' B b n es A c := ⟨h.cs.fr k id, h.good, h.own.fr k fun _ _ => id, h.far⟩
theorem GBox.store {wr w7 : World} {B b : Nat} {A A6 : Option Addr} {c c6 : Nat} {es' : List (Nat × Nat)} (h : GBox wr B b n es A c) (k : Fr No wr w7) (hg : Good n es') (hO : Ow w7 2 A6 es'.length c6 (cellsOf es')) (hA : ∀ x, InA A6 x → x ≠ b ∧ B ≤ x) :
    GBox ((w7.setCell ⟨b, 0, none⟩ (.int .i64 (n : Int))).setCell ⟨b, 1, none⟩ (.slice A6 es'.length c6)) B b n es' A6 c6 := by
  have hs := ((Fr.refl (fun z => z = b) w7).setCell ⟨b, 0, none⟩ (.int .i64 (n : Int)) fun _ => rfl).setCell ⟨b, 1, none⟩ (.slice A6 es'.length c6) fun _ => rfl
  exact ⟨((h.cs.fr k id).set 0 _).set 1 _, hg, hO.fr hs fun x hx e => (hA x hx).1 e, hA⟩

def SmallRel (w : World) (n b b8 : Nat) (g : Nat) (x : Value) (wr : World) : Prop :=
  ∃ (i : Nat) (es : List (Nat × Nat)) (A : Option Addr) (c : Nat), x = .int .i64 ((2 * i : Nat) : Int) ∧ i ≤ 200 ∧ g = 200 - i ∧ GBox wr b b n es A c ∧ Cs wr b8 #[.int .i64 0, .slice none 0 0] ∧ Fr No w wr

theorem small_spec {x0 : Int} {Ax : Option Addr} {cx V E : Nat} {xs : List Int} (hx : Rd w 1 Ax xs.length (xs.map (Value.int .i64))) (hxl : (xs.length : Int) ≤ 9223372036854775807) (hV : V ≤ 4000) (hE : E ≤ 4000) :
    Calls Try.prog 7 #[.int .i64 x0, .slice Ax xs.length cx, .int .i64 (V : Int), .int .i64 (E : Int)] w (GraphPost w V) := by
  obtain ⟨n, hn, hnV⟩ := umod_nat x0 (V + 1) (by omega)
  have w2 : wrap64 (n : Int) = (n : Int) := wrap64_nat (by omega)
  have hn' : (IntKind.u64.wrap x0).tmod ((V : Int) + 1) = (n : Int) := by rw [← hn]; rfl
  have HX := Lib.hid hx
  clear hx hn
  go_enter Try.func7, Try.ntmps7
  go_upto_region 3 with (fail)
  have f1 : Fr No w ((w.alloc (.cells #[.int .i64 0, .slice none 0 0] 25)).alloc (.cells #[.int .i64 (n : Int), .slice none 0 0] 25)) := ((Fr.refl _ _).alloc _).alloc _
  have c8 := (Cs.new w 25 #[.int .i64 0, .slice none 0 0]).alloc (.cells #[.int .i64 (n : Int), .slice none 0 0] 25)
  have c9 := Cs.new (w.alloc (.cells #[.int .i64 0, .slice none 0 0] 25)) 25 #[.int .i64 (n : Int), .slice none 0 0]
  have e9 : (w.alloc (.cells #[.int .i64 0, .slice none 0 0] 25)).heap.size = w.heap.size + 1 := by simp
  rw [e9] at c9
  generalize (w.alloc (.cells #[.int .i64 0, .slice none 0 0] 25)).alloc (.cells #[.int .i64 (n : Int), .slice none 0 0] 25) = w1 at c8 c9 f1 ⊢
  obtain ⟨b9, hb9⟩ : ∃ b, b = w.heap.size + 1 := ⟨_, rfl⟩
  rw [← hb9] at c9 ⊢
  obtain ⟨b8, hb8⟩ : ∃ b, b = w.heap.size := ⟨_, rfl⟩
  rw [← hb8] at c8 ⊢
  have hne : b9 ≠ b8 := by omega
  have hsz8 : w.heap.size ≤ b8 := by omega
  have hlt89 : b8 < b9 := by omega
  have hsz9 : w.heap.size ≤ b9 := by omega
  have C8 := Lib.hid c8
  have hgood : Good n [] := ⟨by omega, by simp, by simp, List.Pairwise.nil⟩
  have hbox : GBox w1 b9 b9 n [] none 0 := ⟨c9, hgood, Ow.nil_ _ _, fun x ⟨ad, h, _⟩ => by cases h⟩
  clear e9 c8 c9 hb8 hb9 hgood hn' w2
  go_wp2_with fail
  go_loopg [10] 200 (SmallRel w n b9 b8)
  case atStart => exact ⟨0, [], none, 0, rfl, by omega, rfl, hbox, C8.out, f1⟩
  case round =>
    clear hbox f1
    obtain ⟨i, es, A, c, rfl, hi, hg, hbx, hc8, hfr⟩ := hrel
    have H8 := Lib.hid hc8
    clear hc8
    have HGK := Lib.hid hg
    have g0 := hbx.cs.cell 0
    have g1 := hbx.cs.cell 1
    have z0 := hbx.cs.frozen 0
    have z1 := hbx.cs.frozen 1
    simp only [List.getElem?_toArray, List.getElem?_cons_zero, List.getElem?_cons_succ] at g0 g1
    clear hg
    obtain ⟨j, hj⟩ : ∃ j, j = 2 * i := ⟨_, rfl⟩
    rw [← hj]
    have HJ := Lib.hid hj
    have hj4 : j ≤ 400 := by omega
    clear hj
    have HB := Lib.hid hbx
    clear hbx
    by_cases q1 : j + 1 < xs.length
    · have d1 : decide ((j : Int) + 1 < (xs.length : Int)) = true := by rw [decide_eq_true_iff]; omega
      have D1 := Lib.hid q1
      clear q1
      by_cases q2 : es.length < E
      · have d2 : decide (es.length < E) = true := by simp [q2]
        clear q2
        by_cases q3 : 0 < n
        · have d3 : decide (0 < n) = true := by simp [q3]
          by_cases q4 : j < 400
          · have d4 : decide ((j : Int) < 400) = true := by simp; omega
            have D4 := Lib.hid q4
            clear q4
            have hl1 : j < xs.length := by have := D1.out; omega
            obtain ⟨bx, ox, rfl, hcx⟩ := (HX.out.fr hfr fun _ _ => id).at_ (by rw [List.length_map]; omega)
            obtain ⟨j1, hj1⟩ : ∃ j1, j1 = j + 1 := ⟨_, rfl⟩
            have hl2 : j1 < xs.length := by have := D1.out; omega
            have p1 := hcx j (.int .i64 xs[j]) (by rw [List.getElem?_map, List.getElem?_eq_getElem hl1]; rfl)
            have p2 := hcx j1 (.int .i64 xs[j1]) (by rw [List.getElem?_map, List.getElem?_eq_getElem hl2]; rfl)
            clear hcx
            generalize xs[j] = xa at p1
            generalize xs[j1] = xb at p2
            obtain ⟨ra, hra, hra2⟩ := umod_nat xa n q3
            obtain ⟨rb, hrb, hrb2⟩ := umod_nat xb n q3
            have u1 : IntKind.u64.wrap (n : Int) = (n : Int) := by rw [IntKind.wrap_u64]; omega
            have u2 : IntKind.i64.wrap (ra : Int) = (ra : Int) := by rw [IntKind.wrap_i64]; omega
            have u3 : IntKind.i64.wrap (rb : Int) = (rb : Int) := by rw [IntKind.wrap_i64]; omega
            have hadd : (j : Int) + 1 = (j1 : Int) := by omega
            have hwr : IntKind.i64.wrap (j1 : Int) = (j1 : Int) := by rw [IntKind.wrap_i64]; omega
            have hji : (j : Int) < (xs.length : Int) := by omega
            have hj1i : (j1 : Int) < (xs.length : Int) := by omega
            have hn0 : ¬ n = 0 := by omega
            have n3 : wr.heap.size ≠ b9 := World.new_ne wr ⟨b9, 0, none⟩ g0
            have n4 : wr.heap.size ≠ bx := World.new_ne wr ⟨bx, ox + j, none⟩ p1
            have d1 : decide ((j1 : Int) < (xs.length : Int)) = true := by rw [decide_eq_true_iff]; omega
            have HJ1 := Lib.hid hj1
            clear hj1
            go_wp2_with fail
            go_region_held3 (fun w' => w'.cell? ⟨b9, 0, none⟩ = some (.int .i64 (n : Int)) ∧ w'.cell? ⟨b9, 1, none⟩ = some (.slice A es.length c) ∧ w'.cell? ⟨bx, ox + j, none⟩ = some (.int .i64 xa) ∧ w'.cell? ⟨bx, ox + j1, none⟩ = some (.int .i64 xb))
              (first | (simp [*, World.cell?_setCell_far, World.cell?_alloc_some]; done) | (exact ⟨s1, s2, s3, s4⟩))
              (first
                | (go_at_call 22; refine (add_spec (a := ra) (b := rb) HB.out.good (HB.out.own.fr ((Fr.refl No _).drew) fun _ _ => id) hra2 hrb2).mono ?_; intro e6 w6 h6; obtain ⟨X, A6, L6, c6, k6, rfl, hfr6, h6⟩ := h6.uni; have hfr7 : Fr No wr w6 := (Fr.refl No wr).drew.step hfr6; have s1 := hfr7.cell g0 id; have s2 := hfr7.cell g1 id; have s3 := hfr7.cell p1 id; have s4 := hfr7.cell p2 id; have n1 : w6.heap.size ≠ b9 := World.new_ne w6 ⟨b9, 0, none⟩ s1; have n2 : w6.heap.size ≠ bx := World.new_ne w6 ⟨bx, ox + j, none⟩ s3)
                | (go_at_call 22; refine (add_spec (a := ra) (b := rb) HB.out.good (HB.out.own.fr (((Fr.refl No _).alloc _).drew) fun _ _ => id) hra2 hrb2).mono ?_; intro e6 w6 h6; obtain ⟨X, A6, L6, c6, k6, rfl, hfr6, h6⟩ := h6.uni; have hfr7 : Fr No wr w6 := (((Fr.refl No wr).alloc _).drew).step hfr6; have s1 := hfr7.cell g0 id; have s2 := hfr7.cell g1 id; have s3 := hfr7.cell p1 id; have s4 := hfr7.cell p2 id; have cN := Cs.fr (w := (wr.alloc (.cells #[.int .i64 0, .slice none 0 0] 25)).drew) (Cs.new wr 25 #[.int .i64 0, .slice none 0 0]) hfr6 id; have v0 := cN.cell 0; have v1 := cN.cell 1; have y0 := cN.frozen 0; have y1 := cN.frozen 1; simp only [List.getElem?_toArray, List.getElem?_cons_zero, List.getElem?_cons_succ] at v0 v1))
            · have t0 := (Cs.new w6 25 #[.int .i64 X, .slice A6 L6 c6]).cell 0
              have t1 := (Cs.new w6 25 #[.int .i64 X, .slice A6 L6 c6]).cell 1
              have hfr8 : Fr No wr (w6.alloc (.cells #[.int .i64 X, .slice A6 L6 c6] 25)) := hfr7.alloc _
              have hlt9 := World.block_lt_of_cell? wr _ g0
              have h7 : k6 ≠ 0 ∨ (k6 = 0 ∧ X = (n : Int) ∧ ∃ es', L6 = es'.length ∧ Good n es' ∧ Ow (w6.alloc (.cells #[.int .i64 X, .slice A6 L6 c6] 25)) 2 A6 es'.length c6 (cellsOf es') ∧ ∀ x, InA A6 x → x ≠ b9 ∧ b9 ≤ x) :=
                h6.imp_right fun ⟨hk, hX, es', hL, hG, hOw, hA⟩ => ⟨hk, hX, es', hL, hG, hOw.fr ((Fr.refl No _).alloc _) fun _ _ => id, fun x hx => by
                  have h1 : wr.heap.size ≤ x := hA x hx
                  have h2 := hfr.size
                  simp only at hlt9
                  exact ⟨by omega, by omega⟩⟩
              generalize w6.alloc (.cells #[.int .i64 X, .slice A6 L6 c6] 25) = w7 at t0 t1 hfr8 h7 ⊢
              generalize w6.heap.size = b11 at n1 t0 t1 ⊢
              simp only [List.getElem?_toArray, List.getElem?_cons_zero, List.getElem?_cons_succ] at t0 t1
              have hb11 : b11 ≠ b9 := n1
              clear n1 n2
              have HH := Lib.hid h6
              have HF := Lib.hid hfr
              clear h6 hfr hfr6 s1 s2 s3 s4
              rcases h7 with hk | ⟨rfl, rfl, es', rfl, hG', hO', hA'⟩
              · have e0 : (k6 == 0) = false := by simpa using hk
                have hbx := HB.out.fr hfr8
                have hfrw := HF.out.step hfr8
                have hc8 := H8.out.fr hfr8 id
                have HK := Lib.hid hk
                clear hk hfr8 t0 t1
                go_wp2_with fail
                go_roundg (200 - (i + 1))
                case measure => rw [HGK.out]; have := HJ.out; have := D4.out; omega
                case rel => exact ⟨i + 1, es, A, c, by congr 1; have := HJ.out; omega, by have := HJ.out; have := D4.out; omega, rfl, hbx, hc8, hfrw⟩
              · have hbx := HB.out.store hfr8 hG' hO' hA'
                have hc8 : Cs ((w7.setCell ⟨b9, 0, none⟩ (.int .i64 (n : Int))).setCell ⟨b9, 1, none⟩ (.slice A6 es'.length c6)) b8 #[.int .i64 0, .slice none 0 0] := ((H8.out.fr hfr8 id).far _ _ (Ne.symm hne)).far _ _ (Ne.symm hne)
                have hfrw : Fr No w ((w7.setCell ⟨b9, 0, none⟩ (.int .i64 (n : Int))).setCell ⟨b9, 1, none⟩ (.slice A6 es'.length c6)) := ((HF.out.step hfr8).setCell _ _ fun h => absurd h (Nat.not_lt.2 hsz9)).setCell _ _ fun h => absurd h (Nat.not_lt.2 hsz9)
                have s1 := hfr8.cell g0 id
                have s2 := hfr8.cell g1 id
                have y0 := hfr8.frz g0 z0 id
                have y1 := hfr8.frz g1 z1 id
                clear g0 g1 z0 z1 p1 p2 hfr8
                go_wp2_with fail
                generalize (w7.setCell ⟨b9, 0, none⟩ (.int .i64 (n : Int))).setCell ⟨b9, 1, none⟩ (.slice A6 es'.length c6) = w8 at hbx hfrw hc8 ⊢
                go_roundg (200 - (i + 1))
                case measure => rw [HGK.out]; have := HJ.out; have := D4.out; omega
                case rel => exact ⟨i + 1, es', A6, c6, by congr 1; have := HJ.out; omega, by have := HJ.out; have := D4.out; omega, rfl, hbx, hc8, hfrw⟩
            · obtain ⟨w7, hw7, t0, t1, hfr9⟩ := set2_cells (.int .i64 X) (.slice A6 L6 c6) v0 v1
              rw [← hw7]
              clear hw7 v0 v1 y0 y1 cN
              have hfr8 : Fr No wr w7 := hfr7.new hfr9 fun x e => by rw [e]; exact Nat.le_refl _
              have hlt9 := World.block_lt_of_cell? wr _ g0
              have h7 : k6 ≠ 0 ∨ (k6 = 0 ∧ X = (n : Int) ∧ ∃ es', L6 = es'.length ∧ Good n es' ∧ Ow w7 2 A6 es'.length c6 (cellsOf es') ∧ ∀ x, InA A6 x → x ≠ b9 ∧ b9 ≤ x) :=
                h6.imp_right fun ⟨hk, hX, es', hL, hG, hOw, hA⟩ => by
                  have hA' : ∀ x, InA A6 x → wr.heap.size + 1 ≤ x := fun x hx => by simpa using hA x hx
                  refine ⟨hk, hX, es', hL, hG, hOw.fr hfr9 fun x hx e => ?_, fun x hx => ?_⟩
                  · have := hA' x hx; omega
                  · have h1 := hA' x hx
                    have h2 := hfr.size
                    simp only at hlt9
                    exact ⟨by omega, by omega⟩
              have hb11 := n3
              generalize wr.heap.size = b11 at n3 n4 t0 t1 hb11 hlt9 ⊢
              have HH := Lib.hid h6
              have HF := Lib.hid hfr
              clear h6 hfr hfr6 s1 s2 s3 s4
              rcases h7 with hk | ⟨rfl, rfl, es', rfl, hG', hO', hA'⟩
              · have e0 : (k6 == 0) = false := by simpa using hk
                have hbx := HB.out.fr hfr8
                have hfrw := HF.out.step hfr8
                have hc8 := H8.out.fr hfr8 id
                have HK := Lib.hid hk
                clear hk hfr8 t0 t1
                go_wp2_with fail
                go_roundg (200 - (i + 1))
                case measure => rw [HGK.out]; have := HJ.out; have := D4.out; omega
                case rel => exact ⟨i + 1, es, A, c, by congr 1; have := HJ.out; omega, by have := HJ.out; have := D4.out; omega, rfl, hbx, hc8, hfrw⟩
              · have hbx := HB.out.store hfr8 hG' hO' hA'
                have hc8 : Cs ((w7.setCell ⟨b9, 0, none⟩ (.int .i64 (n : Int))).setCell ⟨b9, 1, none⟩ (.slice A6 es'.length c6)) b8 #[.int .i64 0, .slice none 0 0] := ((H8.out.fr hfr8 id).far _ _ (Ne.symm hne)).far _ _ (Ne.symm hne)
                have hfrw : Fr No w ((w7.setCell ⟨b9, 0, none⟩ (.int .i64 (n : Int))).setCell ⟨b9, 1, none⟩ (.slice A6 es'.length c6)) := ((HF.out.step hfr8).setCell _ _ fun h => absurd h (Nat.not_lt.2 hsz9)).setCell _ _ fun h => absurd h (Nat.not_lt.2 hsz9)
                have s1 := hfr8.cell g0 id
                have s2 := hfr8.cell g1 id
                have y0 := hfr8.frz g0 z0 id
                have y1 := hfr8.frz g1 z1 id
                clear g0 g1 z0 z1 p1 p2 hfr8
                go_wp2_with fail
                generalize (w7.setCell ⟨b9, 0, none⟩ (.int .i64 (n : Int))).setCell ⟨b9, 1, none⟩ (.slice A6 es'.length c6) = w8 at hbx hfrw hc8 ⊢
                go_roundg (200 - (i + 1))
                case measure => rw [HGK.out]; have := HJ.out; have := D4.out; omega
                case rel => exact ⟨i + 1, es', A6, c6, by congr 1; have := HJ.out; omega, by have := HJ.out; have := D4.out; omega, rfl, hbx, hc8, hfrw⟩
          · have d4 : decide ((j : Int) < 400) = false := by simp; omega
            clear q4
            have c8 := H8.out
            have t0 := c8.cell 0
            have t1 := c8.cell 1
            have y0 := c8.frozen 0
            have y1 := c8.frozen 1
            simp only [List.getElem?_toArray, List.getElem?_cons_zero, List.getElem?_cons_succ] at t0 t1
            clear c8
            go_wp2_with fail
            obtain ⟨w9, hw9, r0, r1, hfr9⟩ := set2_cells (.int .i64 (n : Int)) (.slice A es.length c) t0 t1
            rw [← hw9]
            clear hw9 t0 t1 y0 y1
            refine bodyPost_end (by simp [results, Try.results7, go_sem, r0, r1]; rfl) rfl ?_
            refine ⟨n, es, A, c, by omega, HB.out.good, rfl, HB.out.own.fr hfr9 fun x hx e => ?_, fun x hx => Nat.le_trans hsz9 (HB.out.far x hx).2, hfr.new hfr9 fun x e => by rw [e]; exact hsz8⟩
            have := (HB.out.far x hx).2; omega
        · have d3 : decide (0 < n) = false := by simp; omega
          clear q3
          have c8 := H8.out
          have t0 := c8.cell 0
          have t1 := c8.cell 1
          have y0 := c8.frozen 0
          have y1 := c8.frozen 1
          simp only [List.getElem?_toArray, List.getElem?_cons_zero, List.getElem?_cons_succ] at t0 t1
          clear c8
          go_wp2_with fail
          obtain ⟨w9, hw9, r0, r1, hfr9⟩ := set2_cells (.int .i64 (n : Int)) (.slice A es.length c) t0 t1
          rw [← hw9]
          clear hw9 t0 t1 y0 y1
          refine bodyPost_end (by simp [results, Try.results7, go_sem, r0, r1]; rfl) rfl ?_
          refine ⟨n, es, A, c, by omega, HB.out.good, rfl, HB.out.own.fr hfr9 fun x hx e => ?_, fun x hx => Nat.le_trans hsz9 (HB.out.far x hx).2, hfr.new hfr9 fun x e => by rw [e]; exact hsz8⟩
          have := (HB.out.far x hx).2; omega
      · have d2 : decide (es.length < E) = false := by simp; omega
        clear q2
        have c8 := H8.out
        have t0 := c8.cell 0
        have t1 := c8.cell 1
        have y0 := c8.frozen 0
        have y1 := c8.frozen 1
        simp only [List.getElem?_toArray, List.getElem?_cons_zero, List.getElem?_cons_succ] at t0 t1
        clear c8
        go_wp2_with fail
        obtain ⟨w9, hw9, r0, r1, hfr9⟩ := set2_cells (.int .i64 (n : Int)) (.slice A es.length c) t0 t1
        rw [← hw9]
        clear hw9 t0 t1 y0 y1
        refine bodyPost_end (by simp [results, Try.results7, go_sem, r0, r1]; rfl) rfl ?_
        refine ⟨n, es, A, c, by omega, HB.out.good, rfl, HB.out.own.fr hfr9 fun x hx e => ?_, fun x hx => Nat.le_trans hsz9 (HB.out.far x hx).2, hfr.new hfr9 fun x e => by rw [e]; exact hsz8⟩
        have := (HB.out.far x hx).2; omega
    · have d1 : decide ((j : Int) + 1 < (xs.length : Int)) = false := by rw [decide_eq_false_iff_not]; omega
      clear q1
      have c8 := H8.out
      have t0 := c8.cell 0
      have t1 := c8.cell 1
      have y0 := c8.frozen 0
      have y1 := c8.frozen 1
      simp only [List.getElem?_toArray, List.getElem?_cons_zero, List.getElem?_cons_succ] at t0 t1
      clear c8
      go_wp2_with fail
      obtain ⟨w9, hw9, r0, r1, hfr9⟩ := set2_cells (.int .i64 (n : Int)) (.slice A es.length c) t0 t1
      rw [← hw9]
      clear hw9 t0 t1 y0 y1
      refine bodyPost_end (by simp [results, Try.results7, go_sem, r0, r1]; rfl) rfl ?_
      refine ⟨n, es, A, c, by omega, HB.out.good, rfl, HB.out.own.fr hfr9 fun x hx e => ?_, fun x hx => Nat.le_trans hsz9 (HB.out.far x hx).2, hfr.new hfr9 fun x e => by rw [e]; exact hsz8⟩
      have := (HB.out.far x hx).2; omega

end Gar
