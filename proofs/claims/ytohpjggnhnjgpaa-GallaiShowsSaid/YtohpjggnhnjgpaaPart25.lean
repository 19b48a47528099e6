/-
  PROVED: lemmas of the claim; no condition beyond what each one states.
  Walks: gallai.Of, ref08.Free.
  PLAIN LAW. The pieces of what is even are odd, and as many as the odd vertices and those without a mate together; those without a mate are even.
  PLAIN LAW. What is told of the star 0-1, 0-2: both leaves are even, the middle is odd.
-/
import Derived.Test.YtohpjggnhnjgpaaPart21
import Derived.Test.YtohpjggnhnjgpaaPart2
import Derived.Test.YtohpjggnhnjgpaaPart11
import Derived.Test.YtohpjggnhnjgpaaPart16
set_option linter.unusedVariables false
set_option linter.unusedSimpArgs false

namespace Gar
open Go Go.RowKit Go.Proofs
set_option maxRecDepth 100000
set_option maxHeartbeats 1600000
variable {w : World} {n : Nat} {es : List (Nat × Nat)}

theorem such24_spec {Al : Option Addr} {cl l0 : Nat} {ls : List Nat} (hl : ls.length ≤ 1000000) (hR : Rd w 1 Al ls.length (ls.map iv)) :
    Calls Try.prog 24 #[.slice Al ls.length cl, .int .i64 (l0 : Int)] w (CollPost w ((List.range ls.length).filter fun v => ls[v]? == some l0)) := by
  have HR := Lib.hid hR
  clear hR
  generalize hq : ((List.range ls.length).filter fun v => ls[v]? == some l0) = q
  have HQ := Lib.hid hq
  clear hq
  go_enter Try.func24, Try.ntmps24
  go_wp2_with fail
  refine (suchl_spec (l0 := l0) hl HR.out).mono ?_
  rintro e w3 ⟨x, rfl, ⟨A3, c3, rfl, hO3, hA3⟩, hfr3⟩
  rw [HQ.out] at hO3 ⊢
  have HX := Lib.hid (And.intro hO3 (And.intro hA3 hfr3))
  clear hO3 hA3 hfr3
  go_wp2_with fail
  go_ret
  exact ⟨_, rfl, ⟨A3, c3, rfl, HX.out.1, HX.out.2.1⟩, HX.out.2.2⟩

def GofPost (w : World) (n : Nat) (es : List (Nat × Nat)) (e : Ending) (w' : World) : Prop :=
  ∃ f S A1 c1 A2 c2 A3 c3, Told n es f S ∧ e = .returned (.tuple #[.agg #[.slice A1 (setOf n S.dB).length c1, .slice A2 (setOf n S.aB).length c2, .slice A3 (setOf n S.cB).length c3], .int .i64 0]) ∧
    Ow w' 1 A1 (setOf n S.dB).length c1 ((setOf n S.dB).map iv) ∧ Ow w' 1 A2 (setOf n S.aB).length c2 ((setOf n S.aB).map iv) ∧ Ow w' 1 A3 (setOf n S.cB).length c3 ((setOf n S.cB).map iv) ∧ Fr No w w'

theorem gof_spec {Ae : Option Addr} {ce : Nat} (hG : Good n es) (hR : Rd w 2 Ae es.length (cellsOf es)) :
    Calls Try.prog 8 #[.agg #[.int .i64 (n : Int), .slice Ae es.length ce]] w (GofPost w n es) := by
  have f1 : Fr No w ((w.alloc (.cells #[.int .i64 (n : Int), .slice Ae es.length ce] 25)).alloc (.cells #[.slice none 0 0, .slice none 0 0, .slice none 0 0] 29)) := ((Fr.refl _ _).alloc _).alloc _
  have cg := (Cs.new w 25 #[.int .i64 (n : Int), .slice Ae es.length ce]).alloc (.cells #[.slice none 0 0, .slice none 0 0, .slice none 0 0] 29)
  have ct := Cs.new (w.alloc (.cells #[.int .i64 (n : Int), .slice Ae es.length ce] 25)) 29 #[.slice none 0 0, .slice none 0 0, .slice none 0 0]
  have g0 := cg.cell 0
  have g1 := cg.cell 1
  simp only [List.getElem?_toArray, List.getElem?_cons_zero, List.getElem?_cons_succ] at g0 g1
  have hn := hG.n_le
  have HG := Lib.hid hG
  have HR := Lib.hid (hR.fr f1 fun _ _ => id)
  have hbt : w.heap.size ≤ (w.alloc (.cells #[.int .i64 (n : Int), .slice Ae es.length ce] 25)).heap.size := ((Fr.refl No w).alloc _).size
  clear hR hG cg
  go_enter Try.func8, Try.ntmps8
  go_upto_region 1 with (fail)
  generalize (w.alloc (.cells #[.int .i64 (n : Int), .slice Ae es.length ce] 25)).alloc (.cells #[.slice none 0 0, .slice none 0 0, .slice none 0 0] 29) = w1 at f1 g0 g1 ct HR ⊢
  rw [show (w.alloc (.cells #[.int .i64 (n : Int), .slice Ae es.length ce] 25)).heap.size = w.heap.size + 1 by simp] at ct
  have hbt : w.heap.size ≤ w.heap.size + 1 := by omega
  generalize w.heap.size + 1 = bt at ct hbt ⊢
  generalize hbg : w.heap.size = bg at g0 g1 hbt ⊢
  have HBG := Lib.hid hbg
  clear hbg
  go_wp2_with fail
  refine (labels2_spec HG.out HR.out).mono ?_
  rintro e w2 ⟨f, S, b, A, c, hT, rfl, hL, hfr2⟩
  have hlen := labels_len S n
  have HT := Lib.hid hT
  have f2 := f1.step hfr2
  have ct2 := ct.fr hfr2 id
  have HL := Lib.hid hL.1
  have HOD := Lib.hid (And.intro (labels_even S n) (And.intro (labels_odd S n) (labels_out S n)))
  have hle : (S.labels n).length ≤ 1000000 := by omega
  clear hT hL hfr2 f1 hlen ct g0 g1
  generalize S.labels n = ls at HL HOD hle ⊢
  go_wp2_with fail
  refine (such24_spec (l0 := 1) hle HL.out.rd).mono ?_
  rintro e w3 ⟨x, rfl, ⟨A3, c3, rfl, hO3, hA3⟩, hfr3⟩
  rw [HOD.out.1] at hO3 ⊢
  have f3 := f2.step hfr3
  have HF3 := Lib.hid (show ∀ x, InA A3 x → x ≠ bt from fun x hx e => by have := hA3 x hx; have := ct2.lt; omega)
  have ct3 := ct2.fr hfr3 id
  have HL3 := Lib.hid (HL.out.fr hfr3 fun _ _ => id)
  have HD3 := Lib.hid hO3
  clear hO3 hA3 hfr3 ct2
  go_wp2_with fail
  refine (such24_spec (l0 := 2) hle HL3.out.rd).mono ?_
  rintro e w4 ⟨x, rfl, ⟨A4, c4, rfl, hO4, hA4⟩, hfr4⟩
  rw [HOD.out.2.1] at hO4 ⊢
  have f4 := f3.step hfr4
  have HF4 := Lib.hid (show ∀ x, InA A4 x → x ≠ bt from fun x hx e => by have := hA4 x hx; have := ct3.lt; omega)
  have ct4 := ct3.fr hfr4 id
  have HL4 := Lib.hid (HL3.out.fr hfr4 fun _ _ => id)
  have HD4 := Lib.hid (HD3.out.fr hfr4 fun _ _ => id)
  have HA4 := Lib.hid hO4
  clear hO4 hA4 hfr4 ct3
  go_wp2_with fail
  refine (such24_spec (l0 := 0) hle HL4.out.rd).mono ?_
  rintro e w5 ⟨x, rfl, ⟨A5, c5, rfl, hO5, hA5⟩, hfr5⟩
  rw [HOD.out.2.2] at hO5 ⊢
  have f5 := f4.step hfr5
  have HF5 := Lib.hid (show ∀ x, InA A5 x → x ≠ bt from fun x hx e => by have := hA5 x hx; have := ct4.lt; omega)
  have ct5 := ct4.fr hfr5 id
  have HD5 := Lib.hid (HD4.out.fr hfr5 fun _ _ => id)
  have HA5 := Lib.hid (HA4.out.fr hfr5 fun _ _ => id)
  have HC5 := Lib.hid hO5
  clear hO5 hA5 hfr5 ct4
  have r0 := ct5.cell 0
  have r1 := ct5.cell 1
  have r2 := ct5.cell 2
  have z0 := ct5.frozen 0
  have z1 := ct5.frozen 1
  have z2 := ct5.frozen 2
  simp only [List.getElem?_toArray, List.getElem?_cons_zero, List.getElem?_cons_succ] at r0 r1 r2
  go_wp2_with fail
  clear r0 r1 r2 z0 z1 z2
  have hs : Fr (fun x => x = bt) w5 (((w5.setCell ⟨bt, 0, none⟩ (.slice A3 (setOf n S.dB).length c3)).setCell ⟨bt, 1, none⟩ (.slice A4 (setOf n S.aB).length c4)).setCell ⟨bt, 2, none⟩ (.slice A5 (setOf n S.cB).length c5)) :=
    (((Fr.refl (fun x => x = bt) w5).setCell ⟨bt, 0, none⟩ _ fun _ => rfl).setCell ⟨bt, 1, none⟩ _ fun _ => rfl).setCell ⟨bt, 2, none⟩ _ fun _ => rfl
  have hc : Cs (((w5.setCell ⟨bt, 0, none⟩ (.slice A3 (setOf n S.dB).length c3)).setCell ⟨bt, 1, none⟩ (.slice A4 (setOf n S.aB).length c4)).setCell ⟨bt, 2, none⟩ (.slice A5 (setOf n S.cB).length c5)) bt #[.slice A3 (setOf n S.dB).length c3, .slice A4 (setOf n S.aB).length c4, .slice A5 (setOf n S.cB).length c5] := ((ct5.set 0 _).set 1 _).set 2 _
  have f6 : Fr No w (((w5.setCell ⟨bt, 0, none⟩ (.slice A3 (setOf n S.dB).length c3)).setCell ⟨bt, 1, none⟩ (.slice A4 (setOf n S.aB).length c4)).setCell ⟨bt, 2, none⟩ (.slice A5 (setOf n S.cB).length c5)) := f5.new hs fun x e => by rw [e, HBG.out]; exact hbt
  have hne : ∀ (l : List Nat) (A : Option Addr) (c : Nat), Ow w5 1 A l.length c (l.map iv) → (∀ x, InA A x → x ≠ bt) → Ow (((w5.setCell ⟨bt, 0, none⟩ (.slice A3 (setOf n S.dB).length c3)).setCell ⟨bt, 1, none⟩ (.slice A4 (setOf n S.aB).length c4)).setCell ⟨bt, 2, none⟩ (.slice A5 (setOf n S.cB).length c5)) 1 A l.length c (l.map iv) :=
    fun l A c h hx => h.fr hs fun x hx' e => hx x hx' e
  have o1 := hne _ _ _ HD5.out HF3.out
  have o2 := hne _ _ _ HA5.out HF4.out
  have o3 := hne _ _ _ HC5.out HF5.out
  clear hne hs
  generalize (((w5.setCell ⟨bt, 0, none⟩ (.slice A3 (setOf n S.dB).length c3)).setCell ⟨bt, 1, none⟩ (.slice A4 (setOf n S.aB).length c4)).setCell ⟨bt, 2, none⟩ (.slice A5 (setOf n S.cB).length c5)) = w9 at hc f6 o1 o2 o3 ⊢
  have r0 := hc.cell 0
  have r1 := hc.cell 1
  have r2 := hc.cell 2
  simp only [List.getElem?_toArray, List.getElem?_cons_zero, List.getElem?_cons_succ] at r0 r1 r2
  refine bodyPost_ret (v := .tuple #[.agg #[.slice A3 (setOf n S.dB).length c3, .slice A4 (setOf n S.aB).length c4, .slice A5 (setOf n S.cB).length c5], .int .i64 0]) (by rw [results_cell_tmp rfl]; go_simp) rfl ?_
  exact ⟨f, S, A3, c3, A4, c4, A5, c5, HT.out, rfl, o1, o2, o3, f6⟩

theorem free8_spec {f : Nat → Option Nat} {Am : Option Addr} {cm : Nat} (hn : n ≤ 1000000) (hlt : ∀ v u, f v = some u → u < n) (hO : Ow w 1 Am n cm (mv n f)) (hA : 0 < n → ∃ b, Am = some ⟨b, 0, none⟩) :
    Calls Try.prog 13 #[.slice Am n cm] w (CollPost w (freeOf n f)) := by
  obtain ⟨i0, hi, hz0, hz1, hz2⟩ := info_parts info_int
  have hm : 0 < n → ∃ b, Am = some ⟨b, 0, none⟩ ∧ ∀ v, v < n → w.cell? ⟨b, v, none⟩ = some (ev (f v)) := fun hp => by
    obtain ⟨b, rfl⟩ := hA hp
    exact ⟨b, rfl, fun v hv => by have := (hO.cellAt (mv_get (f := f) hv)).1; simpa using this⟩
  have HM := Lib.hid hm
  clear hm hO hA
  show Calls Try.prog 13 #[.slice Am n cm] w (CollPost w ((List.range n).filter fun v => (f v).isNone))
  go_enter Try.func13, Try.ntmps13
  go_wp2_with fail
  go_loopg [4, 3] n (CollRel w n (fun v => (f v).isNone))
  case atStart => exact ⟨0, rfl, by omega, rfl, ⟨none, 0, rfl, Ow.nil_ _ _, fun x ⟨ad, h, _⟩ => by cases h⟩, Fr.refl _ _⟩
  case round =>
    obtain ⟨k, rfl, hk, hg, ⟨A, c, rfl, hO, hA⟩, hfr⟩ := hrel
    have HG := Lib.hid hg
    clear hg
    have hlen : ((List.range k).filter fun v => (f v).isNone).length ≤ k := by have := List.length_filter_le (fun v => (f v).isNone) (List.range k); simpa using this
    by_cases hlt2 : k < n
    · obtain ⟨bm, rfl, hmm⟩ := HM.out (by omega)
      have h1 := hfr.cell (hmm k hlt2) id
      clear hmm
      have hki : (k : Int) < (n : Int) := by omega
      have hsucc : (List.range (k + 1)).filter (fun v => (f v).isNone) = (List.range k).filter (fun v => (f v).isNone) ++ (if (f k).isNone then [k] else []) := by
        rw [List.range_succ, List.filter_append]; cases h : (f k).isNone <;> simp [h]
      have HS := Lib.hid hsucc
      clear hsucc
      generalize (List.range k).filter (fun v => (f v).isNone) = l at hO hlen HS
      cases hb : f k with
      | some u =>
        rw [hb] at h1
        simp only [ev] at h1
        have hu := hlt k u hb
        have e0 : ((u : Int) == -1) = false := by simp
        have HB := Lib.hid hb
        have HO := Lib.hid hO
        clear hb hO
        go_wp2_with fail
        go_roundg (n - (k + 1))
        case measure => rw [HG.out]; omega
        case rel => exact ⟨k + 1, rfl, by omega, rfl, ⟨A, c, by rw [HS.out, HB.out]; simp, by rw [HS.out, HB.out]; simpa using HO.out, hA⟩, hfr⟩
      | none =>
        rw [hb] at h1
        simp only [ev] at h1
        have e0 : ((-1 : Int) == -1) = true := by rfl
        have HB := Lib.hid hb
        clear hb
        go_wp2_with (at_builtin; refine wpList_append_to rfl (.tmp 16) (.tmp 18) 22 rfl 3 i0 (.int .i64 0) 1 8 Try.underlying22 hi hz0 hz1 hz2 rfl (by decide) (l.length + 1) (l.map iv ++ [iv k]) rfl (hO.fr ((Fr.refl No _).alloc _) fun _ _ => id) rfl (Rd.one (World.cell?_alloc_new _ _ _ 0)) (by simp [Value.oneCell']) rfl rfl (by omega) (by simp only [maxLen]; omega) ?_; intro A5 c5 w5 hO5 hfr5 hA5)
        have hfr6 : Fr No w w5 := (hfr.alloc _).new hfr5 hA
        have hA6 : ∀ b, InA A5 b → w.heap.size ≤ b := fun b hb => (hA5 b hb).elim (hA b) fun h => Nat.le_trans (hfr.alloc _).size h
        have HO := Lib.hid hO5
        clear hO hO5 hfr5 hA5 hfr
        go_roundg (n - (k + 1))
        case measure => rw [HG.out]; omega
        case rel => exact ⟨k + 1, rfl, by omega, rfl, ⟨A5, c5, by rw [HS.out, HB.out]; simp, by rw [HS.out, HB.out]; simpa using HO.out, hA6⟩, hfr6⟩
    · have : k = n := by omega
      subst this
      have HC := Lib.hid (show Coll wr w.heap.size ((List.range k).filter fun v => (f v).isNone) _ from ⟨A, c, rfl, hO, hA⟩)
      clear hO
      go_wp2_with fail
      go_ret
      exact ⟨_, rfl, HC.out, hfr⟩

end Gar

namespace Gar
section
variable {n : Nat} {es : List (Nat × Nat)}

theorem Told.dB_outer {f : Nat → Option Nat} {S : FS} (hT : Told n es f S) {v : Nat} (hv : v < n) : S.dB v = true ↔ S.outer v = true := by
  obtain ⟨M, rep, hOk, hSt⟩ := hT
  obtain ⟨ord, I⟩ := hOk.inv
  unfold FS.dB
  constructor
  · intro h
    rcases Bool.or_eq_true_iff.1 h with h | h
    · exact h
    · exact I.i2' v hv (show S.label v = 1 by simpa using h)
  · intro h; simp [h]

theorem Told.parts {f : Nat → Option Nat} {S : FS} (hT : Told n es f S) {v : Nat} (hv : v < n) : (v ∉ setOf n S.aB ++ setOf n S.cB) ↔ S.outer v = true := by
  have hd := hT
  obtain ⟨M, rep, hOk, hSt⟩ := hT
  obtain ⟨ord, I⟩ := hOk.inv
  have h1 : S.label v ≤ 2 := I.i1 v hv
  have h2 : S.label v = 1 → S.outer v = true := I.i2' v hv
  simp only [List.mem_append, mem_setOf, FS.aB, FS.cB]
  cases ho : S.outer v with
  | true => simp
  | false =>
    rw [ho] at h2
    have h3 : S.label v ≠ 1 := fun e => by have := h2 e; cases this
    have : S.label v = 0 ∨ S.label v = 2 := by omega
    rcases this with e | e <;> simp [e, hv]

theorem Told.gallai (G : Gr n (adjOf es)) {f : Nat → Option Nat} {S : FS} (hT : Told n es f S) {L : List (List Nat)} (hL : Pieces n (adjOf es) (fun v => v < n ∧ v ∉ setOf n S.aB ++ setOf n S.cB) L) :
    (∀ l ∈ L, l.length % 2 = 1) ∧ L.length = (freeOf n f).length + (setOf n S.aB).length := by
  have hT' := hT
  obtain ⟨M, rep, hOk, hSt⟩ := hT
  obtain ⟨ord, I⟩ := hOk.inv
  have hK := piecesOf_pieces G.sym (P := fun u => u < n ∧ (S.st rep).odd u = false) (n := n) fun _ h => h.1
  generalize piecesOf n (adjOf es) (fun u => u < n ∧ (S.st rep).odd u = false) = K at hK
  have hout : ∀ v, S.outer v = true → v < n := hOk.on
  have hP : ∀ v, (v < n ∧ v ∉ setOf n S.aB ++ setOf n S.cB) ↔ S.outer v = true := fun v => ⟨fun ⟨a, b⟩ => (hT'.parts a).1 b, fun h => ⟨hout v h, (hT'.parts (hout v h)).2 h⟩⟩
  have hno : ∀ v, S.outer v = true → v < n ∧ (S.st rep).odd v = false := fun v h => ⟨hout v h, by show (S.label v == 2 && !S.outer v) = false; simp [h]⟩
  have hconn : ∀ u v, S.outer u = true → (Conn (adjOf es) (fun v => v < n ∧ v ∉ setOf n S.aB ++ setOf n S.cB) u v ↔ Conn (adjOf es) (fun u => u < n ∧ (S.st rep).odd u = false) u v) := by
    intro u v hu
    constructor
    · intro h; exact h.mono fun x hx => hno x ((hP x).1 hx)
    · intro h
      induction h with
      | refl h => exact .refl u ((hP u).2 hu)
      | @tail a b hab hadj hb ih => exact .tail ih hadj ((hP b).2 (hSt.stays M I (.tail hab hadj hb) hu).1)
  have hodd : ∀ l ∈ K, (l.length % 2 = 1 ↔ ∃ u ∈ l, S.outer u = true) := fun l hl => hSt.oddPieces G M I hK hl
  have hD : Pieces n (adjOf es) (fun v => v < n ∧ v ∉ setOf n S.aB ++ setOf n S.cB) (oddOf K) := by
    refine ⟨fun u h => h.1, fun l hl => hK.ne l (List.mem_filter.1 hl).1, fun l hl => hK.rises l (List.mem_filter.1 hl).1, fun l hl u hu => ?_, fun u hu => ?_, ?_⟩
    · obtain ⟨h1, h2⟩ := List.mem_filter.1 hl
      obtain ⟨x, hx, hxo⟩ := (hodd l h1).1 (by simpa using h2)
      have hxu := ((hK.mem l h1 x hx).2 u).1 hu
      have huo := (hSt.stays M I hxu hxo).1
      exact ⟨(hP u).2 huo, fun v => by rw [hconn u v huo]; exact (hK.mem l h1 u hu).2 v⟩
    · have huo := (hP u).1 hu
      obtain ⟨l, hl, hul⟩ := hK.all u (hno u huo)
      exact ⟨l, List.mem_filter.2 ⟨hl, by have := (hodd l hl).2 ⟨u, hul, huo⟩; simpa using this⟩, hul⟩
    · exact List.Pairwise.sublist ((List.filter_sublist).map _) hK.heads
  have e := hL.uniq hD
  subst e
  refine ⟨fun l hl => by have := (List.mem_filter.1 hl).2; simpa using this, ?_⟩
  exact hSt.lacks G M I hK

theorem Told.leaves (G : Gr n (adjOf es)) {f g : Nat → Option Nat} {S : FS} (hT : Told n es f S) (hg : Best n es g) {u : Nat} (hu : u < n) (hm : g u = none) : u ∈ setOf n S.dB := by
  have hT' := hT
  obtain ⟨M, rep, hOk, hSt⟩ := hT
  obtain ⟨ord, I⟩ := hOk.inv
  have hK := piecesOf_pieces G.sym (P := fun u => u < n ∧ (S.st rep).odd u = false) (n := n) fun _ h => h.1
  exact mem_setOf.2 ⟨hu, (hT'.dB_outer hu).2 (hSt.leaves G M I hK hg.1 (by have := hg.most G M; omega) hu hm)⟩
end
end Gar

namespace Gar
section

theorem Told.leaves' {n : Nat} {es : List (Nat × Nat)} (G : Gr n (adjOf es)) {f g : Nat → Option Nat} {S : FS} (hT : Told n es f S) (M' : Mat n (adjOf es) g) (he : (freeOf n g).length ≤ (freeOf n f).length) {u : Nat} (hu : u < n) (hm : g u = none) : S.outer u = true := by
  obtain ⟨M, rep, hOk, hSt⟩ := hT
  obtain ⟨ord, I⟩ := hOk.inv
  have hK := piecesOf_pieces G.sym (P := fun u => u < n ∧ (S.st rep).odd u = false) (n := n) fun _ h => h.1
  exact hSt.leaves G M I hK M' he hu hm

def star2 : List (Nat × Nat) := [(0, 1), (0, 2)]
theorem star2_good : Good 3 star2 := ⟨by omega, by simp [star2], by simp [star2], by simp [star2, lexLt]⟩
theorem star2_adj {a b : Nat} : adjOf star2 a b ↔ (a = 0 ∧ (b = 1 ∨ b = 2)) ∨ (b = 0 ∧ (a = 1 ∨ a = 2)) := by
  simp only [adjOf, star2, List.mem_cons, List.not_mem_nil, Prod.mk.injEq, or_false]
  omega

theorem star2_told {f : Nat → Option Nat} {S : FS} (hT : Told 3 star2 f S) : setOf 3 S.dB = [1, 2] ∧ setOf 3 S.aB = [0] ∧ setOf 3 S.cB = [] := by
  have G := star2_good.gr
  have hfree : 1 ≤ (freeOf 3 f).length := by
    have a := free_matched 3 f
    rw [matched_two G hT.1] at a
    omega
  have M0 : Mat 3 (adjOf star2) (fun _ => none) := ⟨by simp, by simp, by simp⟩
  have MA := M0.add G (v := 0) (u := 1) (star2_adj.2 (by omega)) rfl rfl
  have MB := M0.add G (v := 0) (u := 2) (star2_adj.2 (by omega)) rfl rfl
  have o2 : S.outer 2 = true := hT.leaves' G MA (Nat.le_trans (by decide) hfree) (by omega) rfl
  have o1 : S.outer 1 = true := hT.leaves' G MB (Nat.le_trans (by decide) hfree) (by omega) rfl
  have hle : (freeOf 3 f).length ≤ 1 := by
    have := hT.best.most G MA
    exact Nat.le_trans this (by decide)
  have hT' := hT
  obtain ⟨M, rep, hOk, hSt⟩ := hT
  obtain ⟨ord, I⟩ := hOk.inv
  have o0 : S.outer 0 = false := by
    cases ho : S.outer 0 with
    | false => rfl
    | true =>
      exfalso
      have hx : ∃ x, f 0 = some x := by
        cases hf : f 0 with
        | some x => exact ⟨x, rfl⟩
        | none =>
          exfalso
          have h1 : f 1 = none := by
            cases h : f 1 with
            | none => rfl
            | some u =>
              have a := star2_adj.1 (M.adj _ _ h)
              have b := M.sym _ _ h
              have : u = 0 := by omega
              subst this; rw [hf] at b; cases b
          have h2 : f 2 = none := by
            cases h : f 2 with
            | none => rfl
            | some u =>
              have a := star2_adj.1 (M.adj _ _ h)
              have b := M.sym _ _ h
              have : u = 0 := by omega
              subst this; rw [hf] at b; cases b
          have : (freeOf 3 f).length = 3 := by simp [freeOf, List.range_succ, hf, h1, h2]
          omega
      obtain ⟨x, hx⟩ := hx
      have hxa := star2_adj.1 (M.adj _ _ hx)
      have hxs := M.sym _ _ hx
      obtain ⟨q, hseg, _⟩ := I.i12 0 (by omega) ho
      have hb : (S.st rep).B 0 = 0 := by
        generalize (S.st rep).B 0 = b at hseg
        have ha := hseg.alt
        have hh := hseg.head
        have hn := hseg.nodup
        have hnb := hseg.notB
        cases q with
        | nil => simpa using hh
        | cons a t =>
          exfalso
          simp only [List.cons_append, List.head?_cons, Option.some.injEq] at hh
          subst hh
          simp only [List.cons_append] at ha
          cases t with
          | nil => cases ha
          | cons m t =>
            have hnd : (0 :: m :: t ++ [b]).Nodup := by
              rw [List.nodup_append]
              exact ⟨hn, by simp, fun y hy z hz e => by simp only [List.mem_singleton] at hz; subst hz; subst e; exact hnb hy⟩
            cases t with
            | nil =>
              simp only [List.cons_append, List.nil_append] at ha hnd
              cases ha with
              | cons h1 h2 h3 =>
                rw [hx] at h1; injection h1 with h1; subst h1
                have a := star2_adj.1 h2
                have : b = 0 := by omega
                subst this
                simp at hnd
            | cons u t =>
              simp only [List.cons_append] at ha hnd
              cases ha with
              | cons h1 h2 h3 =>
                rw [hx] at h1; injection h1 with h1; subst h1
                have a := star2_adj.1 h2
                have : u = 0 := by omega
                subst this
                simp at hnd
      have hl1 : (S.st rep).label 0 = 1 := by have := (I.i9 0 (by omega) ho).1; rw [hb] at this; exact this
      have hlx := I.i6 0 x (by omega) hl1 hx
      obtain ⟨_, _, _, _, _, _, _, hadj⟩ := I.i5 x (by omega) hlx
      have hp := star2_adj.1 hadj
      have hp0 : (S.st rep).pred x = 0 := by omega
      have ho := I.i11 x 0 (by omega) hlx hxs
      rw [hp0] at ho
      omega
  have a0 : S.aB 0 = true := by
    rcases hSt.at_ M I (v := 1) (w := 0) (by omega) (by omega) o1 (star2_adj.2 (by omega)) with h | ⟨h, _⟩
    · exact h
    · have : S.outer 0 = true := h
      rw [o0] at this; cases this
  have d0 : S.dB 0 = false := by
    cases h : S.dB 0 with
    | false => rfl
    | true => have := (hT'.dB_outer (v := 0) (by omega)).1 h; rw [o0] at this; cases this
  have d1 : S.dB 1 = true := (hT'.dB_outer (by omega)).2 o1
  have d2 : S.dB 2 = true := (hT'.dB_outer (by omega)).2 o2
  have a1 : S.aB 1 = false := by simp [FS.aB, o1]
  have a2 : S.aB 2 = false := by simp [FS.aB, o2]
  have c1 : S.cB 1 = false := by simp [FS.cB, o1]
  have c2 : S.cB 2 = false := by simp [FS.cB, o2]
  have c0 : S.cB 0 = false := by
    have : S.label 0 = 2 := by
      unfold FS.aB at a0; simp only [Bool.and_eq_true, beq_iff_eq] at a0; exact a0.1
    simp [FS.cB, this]
  refine ⟨?_, ?_, ?_⟩
  · simp [setOf, List.range_succ, d0, d1, d2]
  · simp [setOf, List.range_succ, a0, a1, a2]
  · simp [setOf, List.range_succ, c0, c1, c2]
end
end Gar
