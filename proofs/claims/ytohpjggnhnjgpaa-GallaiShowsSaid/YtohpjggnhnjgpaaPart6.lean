/-
  PROVED: lemmas of the claim; no condition beyond what each one states.
  Walks: Long.
-/
import Derived.Test.YtohpjggnhnjgpaaPart5
set_option linter.unusedVariables false
set_option linter.unusedSimpArgs false

namespace Gar
open Go Go.RowKit Go.Proofs
set_option maxRecDepth 100000
set_option maxHeartbeats 1600000
variable {w : World} {n : Nat} {es : List (Nat × Nat)}

/-- A list of pairs in the making. -/
structure Prs (wr : World) (B n : Nat) (L : List (Nat × Nat)) (A : Option Addr) (c : Nat) : Prop where
  own : Ow wr 2 A L.length c (cellsOf L)
  far : ∀ x, InA A x → B ≤ x
  lt : ∀ e ∈ L, e.1 < n ∧ e.2 < n
theorem Prs.fr {wr w' : World} {B : Nat} {L : List (Nat × Nat)} {A : Option Addr} {c : Nat} {S : Nat → Prop} (h : Prs wr B n L A c) (k : Fr S wr w') (hS : ∀ x, S x → ¬ B ≤ x) : Prs w' B n L A c := ⟨h.own.fr k fun x hx hs => hS x hs (h.far x hx), h.far, h.lt⟩

def LongRel (w w1 : World) (n B m : Nat) (p : Nat → Nat) (g : Nat) (x x7 : Value) (wr : World) : Prop :=
  ∃ (k : Nat) (L : List (Nat × Nat)) (A : Option Addr) (c : Nat), x = .int .i64 (k : Int) ∧ x7 = .slice A L.length c ∧ k ≤ m ∧ g = m - k ∧ L.length = p k ∧ Prs wr B n L A c ∧ Fr No w1 wr

def LongRel3 (w : World) (n b9 b8 B : Nat) (L : List (Nat × Nat)) (A : Option Addr) (c : Nat) (g : Nat) (x : Value) (wr : World) : Prop :=
  ∃ (j : Nat) (es : List (Nat × Nat)) (A' : Option Addr) (c' : Nat), x = .int .i64 (j : Int) ∧ j ≤ L.length ∧ g = L.length - j ∧ GBox wr b9 b9 n es A' c' ∧ Cs wr b8 #[.int .i64 0, .slice none 0 0] ∧ Prs wr B n L A c ∧ Fr No w wr

theorem long_spec {x0 x1 x2 : Int} :
    Calls Try.prog 6 #[.int .i64 x0, .int .i64 x1, .int .i64 x2] w (GraphPost w 400) := by
  obtain ⟨i0, hi, hz0, hz1, hz2⟩ := info_parts info_edge
  obtain ⟨r, hr, hr2⟩ := umod_nat x0 300 (by omega)
  have hr' : (IntKind.u64.wrap x0).tmod 300 = (r : Int) := by simpa only [Int.cast_ofNat_Int] using hr
  have HR := Lib.hid hr'
  clear hr hr'
  obtain ⟨m, hm, hm2⟩ := umod_nat x2 60 (by omega)
  have hm' : (IntKind.u64.wrap x2).tmod 60 = (m : Int) := by simpa only [Int.cast_ofNat_Int] using hm
  have HM := Lib.hid hm'
  clear hm hm'
  obtain ⟨n, hn⟩ : ∃ n, n = 3 + r := ⟨_, rfl⟩
  have hn3 : 3 ≤ n := by omega
  have hn4 : n ≤ 302 := by omega
  have hn0 : ¬ n = 0 := by omega
  have w1 : wrap64 (r : Int) = (r : Int) := wrap64_nat (by omega)
  have a1 : 3 + (r : Int) = (n : Int) := by omega
  have W3 := Lib.hid (show wrap64 (m : Int) = (m : Int) from wrap64_nat (by omega))
  obtain ⟨q, hq, hq2⟩ := umod_nat x1 n (by omega)
  have HQ := Lib.hid hq
  clear hq
  obtain ⟨s, hs⟩ : ∃ s, s = 2 + q := ⟨_, rfl⟩
  have w2 : wrap64 (q : Int) = (q : Int) := wrap64_nat (by omega)
  have a2 : 2 + (q : Int) = (s : Int) := by omega
  have hs4 : s ≤ 304 := by omega
  clear hn hs
  have hr' := HR.out
  have hq := HQ.out
  have HM2 := Lib.hid hm2
  clear hr2 hq2 hm2
  go_enter Try.func6, Try.ntmps6
  go_upto_region 5 with (fail)
  have f1 : Fr No w ((w.alloc (.cells #[.int .i64 0, .slice none 0 0] 25)).alloc (.cells #[.int .i64 (n : Int), .slice none 0 0] 25)) := ((Fr.refl _ _).alloc _).alloc _
  have c8 := (Cs.new w 25 #[.int .i64 0, .slice none 0 0]).alloc (.cells #[.int .i64 (n : Int), .slice none 0 0] 25)
  have c9 := Cs.new (w.alloc (.cells #[.int .i64 0, .slice none 0 0] 25)) 25 #[.int .i64 (n : Int), .slice none 0 0]
  have e9 : (w.alloc (.cells #[.int .i64 0, .slice none 0 0] 25)).heap.size = w.heap.size + 1 := by simp
  rw [e9] at c9
  generalize (w.alloc (.cells #[.int .i64 0, .slice none 0 0] 25)).alloc (.cells #[.int .i64 (n : Int), .slice none 0 0] 25) = w1 at c8 c9 f1 ⊢
  obtain ⟨b9, hb9⟩ : ∃ b, b = w.heap.size + 1 := ⟨_, rfl⟩
  rw [← hb9] at c9 ⊢
  obtain ⟨b8, hb8⟩ : ∃ b, b = w.heap.size := ⟨_, rfl⟩
  rw [← hb8] at c8 ⊢
  have hne : b9 ≠ b8 := by omega
  have hsz8 : w.heap.size ≤ b8 := by omega
  have hlt89 : b8 < b9 := by omega
  have hsz9 : w.heap.size ≤ b9 := by omega
  have C8 := Lib.hid c8
  have C9 := Lib.hid c9
  have F1 := Lib.hid f1
  clear e9 c8 c9 hb8 hb9 hr' hq a1 a2 f1
  go_wp2_with fail
  go_loopg [9, 7] n (LongRel w w1 n w1.heap.size n id)
  case atStart => exact ⟨0, [], none, 0, rfl, rfl, by omega, rfl, rfl, ⟨Ow.nil_ _ _, (fun x ⟨ad, h, _⟩ => by cases h), by simp⟩, Fr.refl _ _⟩
  case round =>
    obtain ⟨k, L, A, c, rfl, rfl, hk, hg, hL, hP, hfr⟩ := hrel
    have HG := Lib.hid hg
    have hLk : L.length ≤ 302 := by have : L.length = k := hL; omega
    have HL := Lib.hid hL
    clear hg hL
    by_cases hlt : k < n
    · obtain ⟨rb, hrb⟩ : ∃ rb, rb = (k + 1) % n := ⟨_, rfl⟩
      have hrb2 : rb < n := by rw [hrb]; exact Nat.mod_lt _ (by omega)
      have hmod : ((k : Int) + 1) % (n : Int) = (rb : Int) := by rw [hrb]; rfl
      clear hrb
      go_wp2_with (at_builtin; refine wpList_append_to rfl (.tmp 33) (.tmp 40) 23 rfl 56 i0 (.agg #[.int .i64 0, .int .i64 0]) 2 16 Try.underlying23 hi hz0 hz1 hz2 rfl (by decide) (L.length + 1) (cellsOf (L ++ [(k, rb)])) rfl (hP.own.fr ((Fr.refl No _).alloc _) fun _ _ => id) rfl (Rd.new2 _ _ _ _) one_iv2 rfl (by rw [cellsOf_append]; rfl) (by omega) (by simp only [maxLen]; omega) ?_; intro A5 c5 w5 hO5 hfr5 hA5)
      have hP5 : Prs w5 w1.heap.size n (L ++ [(k, rb)]) A5 c5 := ⟨by simpa using hO5, fun x hx => (hA5 x hx).elim (hP.far x) (fun h => Nat.le_trans (hfr.alloc _).size h), fun e he => by
        rcases List.mem_append.1 he with he | he
        · exact hP.lt e he
        · simp at he; subst he; exact ⟨hlt, hrb2⟩⟩
      have hfr6 : Fr No w1 w5 := (hfr.alloc _).new hfr5 hP.far
      have hlen : (L ++ [(k, rb)]).length = L.length + 1 := by simp
      have HLN := Lib.hid hlen
      have HP5 := Lib.hid hP5
      clear hP5 hlen hO5 hfr5 hA5 hP hfr hmod
      go_wp2_with fail
      go_roundg (n - (k + 1))
      case measure => rw [HG.out]; omega
      case rel => exact ⟨k + 1, _, A5, c5, rfl, by rw [HLN.out], by omega, rfl, by rw [HLN.out, HL.out]; rfl, HP5.out, hfr6⟩
    · have hk2 : k = n := by omega
      subst hk2
      have HP := Lib.hid hP
      have HF := Lib.hid hfr
      clear hP hfr
      go_wp2_with fail
      go_loopg [10, 7] m (LongRel w w1 k w1.heap.size m (fun j => k + j))
      case atStart => exact ⟨0, L, A, c, rfl, rfl, by omega, rfl, by rw [HL.out]; rfl, HP.out, HF.out⟩
      case round =>
        clear HP HF HL hLk
        obtain ⟨j, L, A, c, rfl, rfl, hj, hg, hL, hP, hfr⟩ := hrel
        have HG := Lib.hid hg
        have hLk : L.length ≤ 400 := by have : L.length = k + j := hL; have := HM2.out; omega
        have HL := Lib.hid hL
        clear hg hL
        by_cases hlt : j < m
        · obtain ⟨j7, hj7⟩ : ∃ x, x = j * 7 := ⟨_, rfl⟩
          obtain ⟨js, hjs⟩ : ∃ x, x = j7 + s := ⟨_, rfl⟩
          obtain ⟨ra, hra⟩ : ∃ x, x = j7 % k := ⟨_, rfl⟩
          obtain ⟨rb, hrb⟩ : ∃ x, x = js % k := ⟨_, rfl⟩
          have hra2 : ra < k := by rw [hra]; exact Nat.mod_lt _ (by omega)
          have hrb2 : rb < k := by rw [hrb]; exact Nat.mod_lt _ (by omega)
          have e1 : (j : Int) * 7 = (j7 : Int) := by omega
          have e2 : (j7 : Int) + (s : Int) = (js : Int) := by omega
          have e3 : (j7 : Int).tmod (k : Int) = (ra : Int) := by rw [hra, Int.tmod_eq_emod_of_nonneg (by omega)]; rfl
          have e4 : (js : Int).tmod (k : Int) = (rb : Int) := by rw [hrb, Int.tmod_eq_emod_of_nonneg (by omega)]; rfl
          have hm60 := HM2.out
          have e5 : IntKind.i64.wrap (j7 : Int) = (j7 : Int) := by rw [IntKind.wrap_i64]; omega
          have e6 : IntKind.i64.wrap (js : Int) = (js : Int) := by rw [IntKind.wrap_i64]; omega
          clear hra hrb hj7 hjs
          have hm' := HM.out
          have w3 := W3.out
          go_wp2_with fail
          clear hm' w3
          go_region_law (refine step_append_to rfl (.tmp 50) (.tmp 62) 23 rfl 56 i0 (.agg #[.int .i64 0, .int .i64 0]) 2 16 Try.underlying23 hi hz0 hz1 hz2 rfl (by decide) (L.length + 1) (cellsOf (L ++ [(ra, rb)])) rfl (hP.own.fr (((Fr.refl No _).alloc _).drew) fun _ _ => id) rfl ((Rd.new2 _ _ _ _).fr ((Fr.refl No _).drew) fun _ _ => id) one_iv2 rfl (by rw [cellsOf_append]; rfl) (by omega) (by simp only [maxLen]; omega) ?_; intro A5 c5 w5 hO5 hfr5 hA5)
          have hP5 : Prs w5 w1.heap.size k (L ++ [(ra, rb)]) A5 c5 := ⟨by simpa using hO5, fun x hx => (hA5 x hx).elim (hP.far x) (fun h => Nat.le_trans (hfr.alloc _).size h), fun e he => by
            rcases List.mem_append.1 he with he | he
            · exact hP.lt e he
            · simp at he; subst he; exact ⟨hra2, hrb2⟩⟩
          have hfr6 : Fr No w1 w5 := ((hfr.alloc _).drew).new hfr5 hP.far
          have hlen : (L ++ [(ra, rb)]).length = L.length + 1 := by simp
          have HLN := Lib.hid hlen
          have HP5 := Lib.hid hP5
          clear hP5 hlen hO5 hfr5 hA5 hP hfr e1 e2 e3 e4 e5 e6
          go_wp2_with fail
          go_roundg (m - (j + 1))
          case measure => rw [HG.out]; omega
          case rel => exact ⟨j + 1, _, A5, c5, rfl, by rw [HLN.out], by omega, rfl, by rw [HLN.out, HL.out]; rfl, HP5.out, hfr6⟩
        · have hbox : GBox wr b9 b9 k [] none 0 := ⟨C9.out.fr hfr id, ⟨by omega, by simp, by simp, List.Pairwise.nil⟩, Ow.nil_ _ _, (fun x ⟨ad, h, _⟩ => by cases h)⟩
          have hc8 := C8.out.fr hfr id
          have hfw := F1.out.step hfr
          have hb91 : b9 < w1.heap.size := C9.out.lt
          have HX := Lib.hid (show GBox wr b9 b9 k [] none 0 ∧ Cs wr b8 #[.int .i64 0, .slice none 0 0] ∧ Prs wr w1.heap.size k L A c ∧ Fr No w wr from ⟨hbox, hc8, hP, hfw⟩)
          clear hbox hc8 hfw hP hfr HL
          have hm' := HM.out
          have w3 := W3.out
          go_wp2_with fail
          clear hm' w3
          go_loopg [11] L.length (LongRel3 w k b9 b8 w1.heap.size L A c)
          case atStart => exact ⟨0, [], none, 0, rfl, by omega, rfl, HX.out.1, HX.out.2.1, HX.out.2.2.1, HX.out.2.2.2⟩
          case round =>
            clear HX
            obtain ⟨j, es, A', c', rfl, hj, hg, hbx, hc8, hP, hfr⟩ := hrel
            have HGK := Lib.hid hg
            have H8 := Lib.hid hc8
            have HPP := Lib.hid hP
            have g0 := hbx.cs.cell 0
            have g1 := hbx.cs.cell 1
            have z0 := hbx.cs.frozen 0
            have z1 := hbx.cs.frozen 1
            simp only [List.getElem?_toArray, List.getElem?_cons_zero, List.getElem?_cons_succ] at g0 g1
            have HB := Lib.hid hbx
            clear hg hbx hc8 hP
            by_cases hlt : j < L.length
            · obtain ⟨ba, oa, rfl, hce⟩ := (HPP.out.own.rd).at_ (by rw [cellsOf_len]; omega)
              obtain ⟨k1, k2⟩ := cellsOf_get hlt
              have p1 := hce _ _ k1
              have p2 := hce _ _ k2
              obtain ⟨m1, m2⟩ := HPP.out.lt _ (List.getElem_mem hlt)
              clear hce k1 k2
              generalize L[j] = e at p1 p2 m1 m2
              simp only [iv] at p1 p2
              rw [← Nat.add_assoc] at p2
              have hji : (j : Int) < (L.length : Int) := by omega
              have n3 : wr.heap.size ≠ b9 := World.new_ne wr ⟨b9, 0, none⟩ g0
              have n4 : wr.heap.size ≠ ba := World.new_ne wr ⟨ba, _, none⟩ p1
              go_wp2_with fail
              go_region_held3 (fun w' => w'.cell? ⟨b9, 0, none⟩ = some (.int .i64 (k : Int)) ∧ w'.cell? ⟨b9, 1, none⟩ = some (.slice A' es.length c') ∧ w'.cell? ⟨ba, oa + j * 2, none⟩ = some (.int .i64 (e.1 : Int)) ∧ w'.cell? ⟨ba, oa + j * 2 + 1, none⟩ = some (.int .i64 (e.2 : Int)))
                (first | (simp [*, World.cell?_setCell_far, World.cell?_alloc_some]; done) | (exact ⟨s1, s2, s3, s4⟩))
                (first
                  | (go_at_call 22; refine (add_spec (a := e.1) (b := e.2) HB.out.good (HB.out.own.fr ((Fr.refl No _).drew) fun _ _ => id) m1 m2).mono ?_; intro e6 w6 h6; obtain ⟨X, A6, L6, c6, k6, rfl, hfr6, h6⟩ := h6.uni; have hfr7 : Fr No wr w6 := (Fr.refl No wr).drew.step hfr6; have s1 := hfr7.cell g0 id; have s2 := hfr7.cell g1 id; have s3 := hfr7.cell p1 id; have s4 := hfr7.cell p2 id; have n1 : w6.heap.size ≠ b9 := World.new_ne w6 ⟨b9, 0, none⟩ s1; have n2 : w6.heap.size ≠ ba := World.new_ne w6 ⟨ba, _, none⟩ s3)
                  | (go_at_call 22; refine (add_spec (a := e.1) (b := e.2) HB.out.good (HB.out.own.fr (((Fr.refl No _).alloc _).drew) fun _ _ => id) m1 m2).mono ?_; intro e6 w6 h6; obtain ⟨X, A6, L6, c6, k6, rfl, hfr6, h6⟩ := h6.uni; have hfr7 : Fr No wr w6 := (((Fr.refl No wr).alloc _).drew).step hfr6; have s1 := hfr7.cell g0 id; have s2 := hfr7.cell g1 id; have s3 := hfr7.cell p1 id; have s4 := hfr7.cell p2 id; have cN := Cs.fr (w := (wr.alloc (.cells #[.int .i64 0, .slice none 0 0] 25)).drew) (Cs.new wr 25 #[.int .i64 0, .slice none 0 0]) hfr6 id; have v0 := cN.cell 0; have v1 := cN.cell 1; have y0 := cN.frozen 0; have y1 := cN.frozen 1; simp only [List.getElem?_toArray, List.getElem?_cons_zero, List.getElem?_cons_succ] at v0 v1))
              · have t0 := (Cs.new w6 25 #[.int .i64 X, .slice A6 L6 c6]).cell 0
                have t1 := (Cs.new w6 25 #[.int .i64 X, .slice A6 L6 c6]).cell 1
                have hfr8 : Fr No wr (w6.alloc (.cells #[.int .i64 X, .slice A6 L6 c6] 25)) := hfr7.alloc _
                have hlt9 := World.block_lt_of_cell? wr _ g0
                have h7 : k6 ≠ 0 ∨ (k6 = 0 ∧ X = (k : Int) ∧ ∃ es', L6 = es'.length ∧ Good k es' ∧ Ow (w6.alloc (.cells #[.int .i64 X, .slice A6 L6 c6] 25)) 2 A6 es'.length c6 (cellsOf es') ∧ ∀ x, InA A6 x → x ≠ b9 ∧ b9 ≤ x) :=
                  h6.imp_right fun ⟨hk, hX, es', hL, hG, hOw, hA⟩ => ⟨hk, hX, es', hL, hG, hOw.fr ((Fr.refl No _).alloc _) fun _ _ => id, fun x hx => by
                    have h1 : wr.heap.size ≤ x := hA x hx
                    have h2 := hfr.size
                    simp only at hlt9
                    exact ⟨by omega, by omega⟩⟩
                generalize w6.alloc (.cells #[.int .i64 X, .slice A6 L6 c6] 25) = w7 at t0 t1 hfr8 h7 ⊢
                generalize w6.heap.size = b11 at n1 t0 t1 ⊢
                simp only [List.getElem?_toArray, List.getElem?_cons_zero, List.getElem?_cons_succ] at t0 t1
                have hb11 : b11 ≠ b9 := n1
                clear n1 n2
                have HH := Lib.hid h6
                have HF := Lib.hid hfr
                clear h6 hfr hfr6 s1 s2 s3 s4
                rcases h7 with hk | ⟨rfl, rfl, es', rfl, hG', hO', hA'⟩
                · have e0 : (k6 == 0) = false := by simpa using hk
                  have hbx := HB.out.fr hfr8
                  have hfrw := HF.out.step hfr8
                  have hc8 := H8.out.fr hfr8 id
                  have hp8 := HPP.out.fr hfr8 fun _ h => h.elim
                  have HK := Lib.hid hk
                  clear hk hfr8 t0 t1
                  go_wp2_with fail
                  go_roundg (L.length - (j + 1))
                  case measure => rw [HGK.out]; omega
                  case rel => exact ⟨j + 1, es, A', c', rfl, by omega, rfl, hbx, hc8, hp8, hfrw⟩
                · have hbx := HB.out.store hfr8 hG' hO' hA'
                  have hc8 : Cs ((w7.setCell ⟨b9, 0, none⟩ (.int .i64 (k : Int))).setCell ⟨b9, 1, none⟩ (.slice A6 es'.length c6)) b8 #[.int .i64 0, .slice none 0 0] := ((H8.out.fr hfr8 id).far _ _ (Ne.symm hne)).far _ _ (Ne.symm hne)
                  have hs8 : Fr (fun x => x = b9) w7 ((w7.setCell ⟨b9, 0, none⟩ (.int .i64 (k : Int))).setCell ⟨b9, 1, none⟩ (.slice A6 es'.length c6)) := ((Fr.refl (fun x => x = b9) w7).setCell ⟨b9, 0, none⟩ _ fun _ => rfl).setCell ⟨b9, 1, none⟩ _ fun _ => rfl
                  have hp8 := (HPP.out.fr hfr8 fun _ h => h.elim).fr hs8 fun x e => (by rw [e]; omega)
                  clear hs8
                  have hfrw : Fr No w ((w7.setCell ⟨b9, 0, none⟩ (.int .i64 (k : Int))).setCell ⟨b9, 1, none⟩ (.slice A6 es'.length c6)) := ((HF.out.step hfr8).setCell _ _ fun h => absurd h (Nat.not_lt.2 hsz9)).setCell _ _ fun h => absurd h (Nat.not_lt.2 hsz9)
                  have s1 := hfr8.cell g0 id
                  have s2 := hfr8.cell g1 id
                  have y0 := hfr8.frz g0 z0 id
                  have y1 := hfr8.frz g1 z1 id
                  clear g0 g1 z0 z1 p1 p2 hfr8
                  go_wp2_with fail
                  generalize (w7.setCell ⟨b9, 0, none⟩ (.int .i64 (k : Int))).setCell ⟨b9, 1, none⟩ (.slice A6 es'.length c6) = w8 at hbx hfrw hc8 hp8 ⊢
                  go_roundg (L.length - (j + 1))
                  case measure => rw [HGK.out]; omega
                  case rel => exact ⟨j + 1, es', A6, c6, rfl, by omega, rfl, hbx, hc8, hp8, hfrw⟩
              · obtain ⟨w7, hw7, t0, t1, hfr9⟩ := set2_cells (.int .i64 X) (.slice A6 L6 c6) v0 v1
                rw [← hw7]
                clear hw7 v0 v1 y0 y1 cN
                have hfr8 : Fr No wr w7 := hfr7.new hfr9 fun x e => by rw [e]; exact Nat.le_refl _
                have hlt9 := World.block_lt_of_cell? wr _ g0
                have h7 : k6 ≠ 0 ∨ (k6 = 0 ∧ X = (k : Int) ∧ ∃ es', L6 = es'.length ∧ Good k es' ∧ Ow w7 2 A6 es'.length c6 (cellsOf es') ∧ ∀ x, InA A6 x → x ≠ b9 ∧ b9 ≤ x) :=
                  h6.imp_right fun ⟨hk, hX, es', hL, hG, hOw, hA⟩ => by
                    have hA' : ∀ x, InA A6 x → wr.heap.size + 1 ≤ x := fun x hx => by simpa using hA x hx
                    refine ⟨hk, hX, es', hL, hG, hOw.fr hfr9 fun x hx e => ?_, fun x hx => ?_⟩
                    · have := hA' x hx; omega
                    · have h1 := hA' x hx
                      have h2 := hfr.size
                      simp only at hlt9
                      exact ⟨by omega, by omega⟩
                have hb11 := n3
                generalize wr.heap.size = b11 at n3 n4 t0 t1 hb11 hlt9 ⊢
                have HH := Lib.hid h6
                have HF := Lib.hid hfr
                clear h6 hfr hfr6 s1 s2 s3 s4
                rcases h7 with hk | ⟨rfl, rfl, es', rfl, hG', hO', hA'⟩
                · have e0 : (k6 == 0) = false := by simpa using hk
                  have hbx := HB.out.fr hfr8
                  have hfrw := HF.out.step hfr8
                  have hc8 := H8.out.fr hfr8 id
                  have hp8 := HPP.out.fr hfr8 fun _ h => h.elim
                  have HK := Lib.hid hk
                  clear hk hfr8 t0 t1
                  go_wp2_with fail
                  go_roundg (L.length - (j + 1))
                  case measure => rw [HGK.out]; omega
                  case rel => exact ⟨j + 1, es, A', c', rfl, by omega, rfl, hbx, hc8, hp8, hfrw⟩
                · have hbx := HB.out.store hfr8 hG' hO' hA'
                  have hc8 : Cs ((w7.setCell ⟨b9, 0, none⟩ (.int .i64 (k : Int))).setCell ⟨b9, 1, none⟩ (.slice A6 es'.length c6)) b8 #[.int .i64 0, .slice none 0 0] := ((H8.out.fr hfr8 id).far _ _ (Ne.symm hne)).far _ _ (Ne.symm hne)
                  have hs8 : Fr (fun x => x = b9) w7 ((w7.setCell ⟨b9, 0, none⟩ (.int .i64 (k : Int))).setCell ⟨b9, 1, none⟩ (.slice A6 es'.length c6)) := ((Fr.refl (fun x => x = b9) w7).setCell ⟨b9, 0, none⟩ _ fun _ => rfl).setCell ⟨b9, 1, none⟩ _ fun _ => rfl
                  have hp8 := (HPP.out.fr hfr8 fun _ h => h.elim).fr hs8 fun x e => (by rw [e]; omega)
                  clear hs8
                  have hfrw : Fr No w ((w7.setCell ⟨b9, 0, none⟩ (.int .i64 (k : Int))).setCell ⟨b9, 1, none⟩ (.slice A6 es'.length c6)) := ((HF.out.step hfr8).setCell _ _ fun h => absurd h (Nat.not_lt.2 hsz9)).setCell _ _ fun h => absurd h (Nat.not_lt.2 hsz9)
                  have s1 := hfr8.cell g0 id
                  have s2 := hfr8.cell g1 id
                  have y0 := hfr8.frz g0 z0 id
                  have y1 := hfr8.frz g1 z1 id
                  clear g0 g1 z0 z1 p1 p2 hfr8
                  go_wp2_with fail
                  generalize (w7.setCell ⟨b9, 0, none⟩ (.int .i64 (k : Int))).setCell ⟨b9, 1, none⟩ (.slice A6 es'.length c6) = w8 at hbx hfrw hc8 hp8 ⊢
                  go_roundg (L.length - (j + 1))
                  case measure => rw [HGK.out]; omega
                  case rel => exact ⟨j + 1, es', A6, c6, rfl, by omega, rfl, hbx, hc8, hp8, hfrw⟩
            · have c8 := H8.out
              have t0 := c8.cell 0
              have t1 := c8.cell 1
              have y0 := c8.frozen 0
              have y1 := c8.frozen 1
              simp only [List.getElem?_toArray, List.getElem?_cons_zero, List.getElem?_cons_succ] at t0 t1
              clear c8
              go_wp2_with fail
              obtain ⟨w9, hw9, r0, r1, hfr9⟩ := set2_cells (.int .i64 (k : Int)) (.slice A' es.length c') t0 t1
              rw [← hw9]
              clear hw9 t0 t1 y0 y1
              refine bodyPost_end (by simp [results, Try.results6, go_sem, r0, r1]; rfl) rfl ?_
              refine ⟨k, es, A', c', by omega, HB.out.good, rfl, HB.out.own.fr hfr9 fun x hx e => ?_, fun x hx => Nat.le_trans hsz9 (HB.out.far x hx).2, hfr.new hfr9 fun x e => by rw [e]; exact hsz8⟩
              have := (HB.out.far x hx).2; omega
end Gar
