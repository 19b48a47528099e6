/-
  PROVED: lemmas of the claim; no condition beyond what each one states.
  Walks: (*walk).piece.
-/
import Derived.Test.YtohpjggnhnjgpaaPart14
set_option linter.unusedVariables false
set_option linter.unusedSimpArgs false

namespace Gar
open Go Go.RowKit Go.Proofs
set_option maxRecDepth 100000
set_option maxHeartbeats 1600000
variable {w : World} {n : Nat} {es : List (Nat × Nat)}

/-- .. between two pieces. -/
structure WP (w : World) (O : Nat → Prop) (bw bd n : Nat) (An : Option Addr) (cn : Nat) (dn : Nat → Bool) (x2 : Value) (A3 : Option Addr) (c3 : Nat) : Prop where
  hdr : Cs w bw #[.slice An n cn, .slice (some ⟨bd, 0, none⟩) n n, x2, .slice A3 0 c3]
  don : Ow w 1 (some ⟨bd, 0, none⟩) n n (bl n dn)
  rest : Ow w 1 A3 0 c3 []
  f3 : ∀ x, InA A3 x → x ≠ bw ∧ x ≠ bd ∧ O x
  ne : bw ≠ bd
  hB : O bw ∧ O bd

theorem WP.fr {w w' : World} {O : Nat → Prop} {bw bd cn c3 : Nat} {An A3 : Option Addr} {dn : Nat → Bool} {x2 : Value} (h : WP w O bw bd n An cn dn x2 A3 c3) (k : Fr No w w') : WP w' O bw bd n An cn dn x2 A3 c3 :=
  ⟨h.hdr.fr k id, h.don.fr k fun _ _ => id, h.rest.fr k fun _ _ => id, h.f3, h.ne, h.hB⟩

theorem Ow.front {w : World} {A : Option Addr} {L c : Nat} {xs : List Value} {y : Value} (h : Ow w 1 A (L + 1) c (xs ++ [y])) : Ow w 1 A L c xs := by
  have hl := h.len
  simp only [List.length_append, List.length_cons, List.length_nil, Nat.mul_one] at hl
  refine ⟨by omega, by have := h.le; omega, h.max, h.nil, fun ad e => ?_⟩
  obtain ⟨h1, cs, h2, h3, h4⟩ := h.row ad e
  exact ⟨h1, cs, h2, h3, fun i u hu => h4 i u (by
    have := (List.getElem?_eq_some_iff.1 hu).1
    rw [List.getElem?_append_left this]; exact hu)⟩

def PieceRel (w1 : World) (O : Nat → Prop) (bw bd n : Nat) (An : Option Addr) (cn : Nat) (adj : Nat → Nat → Prop) (D0 : Nat → Bool) (v : Nat) (g : Nat) (wr : World) : Prop :=
  ∃ dn now rest A2 c2 A3 c3, WM wr O bw bd n An cn dn now rest A2 c2 A3 c3 ∧ Dfs n adj D0 v (fun _ _ => False) dn now rest ∧ Fr O w1 wr ∧ g = 2 * (n - now.length) + rest.length
def PieceRelI (w1 : World) (O : Nat → Prop) (bw bd n : Nat) (An : Option Addr) (cn : Nat) (adj : Nat → Nat → Prop) (D0 : Nat → Bool) (v u : Nat) (us : List Nat) (G : Nat) (g : Nat) (x : Value) (wr : World) : Prop :=
  ∃ (i : Nat) (dn : Nat → Bool) (now rest : List Nat) (A2 : Option Addr) (c2 : Nat) (A3 : Option Addr) (c3 : Nat), x = .int .i64 (i : Int) ∧ i ≤ us.length ∧ g = us.length - i ∧ WM wr O bw bd n An cn dn now rest A2 c2 A3 c3 ∧
    Dfs n adj D0 v (fun a b => a = u ∧ b ∈ us.drop i) dn now rest ∧ u ∈ now ∧ Fr O w1 wr ∧ 2 * (n - now.length) + rest.length ≤ G

def PiecePost (w : World) (O : Nat → Prop) (bw bd n : Nat) (An : Option Addr) (cn : Nat) (adj : Nat → Nat → Prop) (D0 : Nat → Bool) (v : Nat) (e : Ending) (w' : World) : Prop :=
  ∃ dn now A2 c2 A3 c3, e = .returned (.slice A2 now.length c2) ∧ Dfs n adj D0 v (fun _ _ => False) dn now [] ∧ WP w' O bw bd n An cn dn (.slice A2 now.length c2) A3 c3 ∧ Fr O w w'

theorem piece_spec {O : Nat → Prop} {bw bd cn c3 v : Nat} {An A3 : Option Addr} {dn : Nat → Bool} {x2 : Value} {adj : Nat → Nat → Prop} {rows : Nat → List Nat} (hn : n ≤ 4096) (hP : WP w O bw bd n An cn dn x2 A3 c3) (hBw : ∀ x, w.heap.size ≤ x → O x) (hv : v < n) (hd : dn v = false)
    (hrow : ∀ v u, v < n → (adj v u ↔ u ∈ rows v)) (hlt : ∀ v u, adj v u → u < n) (hlen : ∀ v, v < n → (rows v).length ≤ 1000000) (hN : NearT w An n rows (fun x => ¬ O x)) :
    Calls Try.prog 62 #[.pointer (some ⟨bw, 0, none⟩), .int .i64 (v : Int)] w (PiecePost w O bw bd n An cn adj dn v) := by
  have g2 := hP.hdr.cell 2
  have y2 := hP.hdr.frozen 2
  simp only [List.getElem?_toArray, List.getElem?_cons_zero, List.getElem?_cons_succ] at g2
  have HP := Lib.hid hP
  have HR := Lib.hid hrow
  have HLT := Lib.hid hlt
  have HLN := Lib.hid hlen
  have HN := Lib.hid hN
  have HD := Lib.hid hd
  have hbw := hP.hdr.lt
  clear hP hrow hlt hlen hN hd
  go_enter Try.func62, Try.ntmps62
  go_upto_region 3 with (fail)
  have hfs : Fr (fun x => x = bw) w (w.setCell ⟨bw, 2, none⟩ (.slice none 0 0)) := (Fr.refl (fun x => x = bw) w).setCell _ _ fun _ => rfl
  have hM : WM (w.setCell ⟨bw, 2, none⟩ (.slice none 0 0)) O bw bd n An cn dn [] [] none 0 A3 c3 :=
    ⟨HP.out.hdr.set 2 (.slice none 0 0), HP.out.don.fr hfs fun x hx e => (by obtain ⟨ad, e1, e2⟩ := hx; injection e1 with e1; subst e1; subst e2; exact HP.out.ne e.symm), Ow.nil_ _ _, HP.out.rest.fr hfs fun x hx e => (HP.out.f3 x hx).1 e,
      (fun x ⟨ad, h, _⟩ => by cases h), HP.out.f3, HP.out.ne, HP.out.hB⟩
  have f1 : Fr O w (w.setCell ⟨bw, 2, none⟩ (.slice none 0 0)) := hfs.mono fun x _ e => by rw [e]; exact HP.out.hB.1
  generalize w.setCell ⟨bw, 2, none⟩ (.slice none 0 0) = w1 at hM f1 ⊢
  clear g2 y2 hfs
  have hB1 : ∀ x, w1.heap.size ≤ x → O x := fun x hx => hBw x (Nat.le_trans f1.size hx)
  have HM := Lib.hid hM
  clear hM
  go_wp2_with fail
  refine (come_new HM.out hB1 hv HD.out (by simp) (by simp)).mono ?_
  rintro e w2 ⟨rfl, A2, c2, A3', c3', hM2, f2⟩
  have f3 := f1.step f2
  have HM2 := Lib.hid hM2
  clear hM2 f2 f1
  go_wp2_with fail
  go_loopg [] (2 * (n - 1) + 1) (PieceRel w O bw bd n An cn adj dn v)
  case atStart => exact ⟨_, [v], [v], A2, c2, A3', c3', HM2.out, Dfs.begin hv HD.out, f3, rfl⟩
  case round =>
    clear HM2
    obtain ⟨d, now, rest, A2, c2, A3, c3, hM, hD, hfr, hg⟩ := hrel
    have HGK := Lib.hid hg
    have g3 := hM.hdr.cell 3
    have y3 := hM.hdr.frozen 3
    have g0 := hM.hdr.cell 0
    have g2 := hM.hdr.cell 2
    simp only [List.getElem?_toArray, List.getElem?_cons_zero, List.getElem?_cons_succ] at g0 g2 g3
    have hnl : now.length ≤ n := nodup_le hD.nod hD.lt
    have hrl : rest.length ≤ n := nodup_le hD.rnod fun x hx => hD.lt x (hD.sub x hx)
    have HD2 := Lib.hid hD
    have HM := Lib.hid hM
    have hBr : ∀ x, wr.heap.size ≤ x → O x := fun x hx => hBw x (Nat.le_trans hfr.size hx)
    clear hg hM hD
    rcases Nat.eq_zero_or_pos rest.length with h0 | hp
    · have hr0 : rest = [] := List.eq_nil_of_length_eq_zero h0
      subst hr0
      simp only [List.length_nil] at g3
      obtain ⟨b2, o2, rfl⟩ := HM.out.now.some (List.length_pos_of_mem HD2.out.start)
      have HNL := Lib.hid hnl
      go_wp2_with fail
      refine (sort_spec HM.out.now (by omega)).mono ?_
      rintro e w5 ⟨rfl, hfr5⟩
      have hb2 := HM.out.f2 b2 ⟨_, rfl, rfl⟩
      have g2' := hfr5.cell g2 (fun e => hb2.1 e.symm)
      have hWP : WP w5 O bw bd n An cn d (.slice (some ⟨b2, o2, none⟩) now.length c2) A3 c3 :=
        ⟨HM.out.hdr.fr hfr5 fun e => hb2.1 e.symm, HM.out.don.fr hfr5 fun x hx e => (by obtain ⟨ad, e1, e2⟩ := hx; injection e1 with e1; subst e1; subst e2; exact hb2.2.1 e.symm), HM.out.rest.fr hfr5 fun x hx e => (by rw [e] at hx; exact hb2.2.2.2 hx), HM.out.f3, HM.out.ne, HM.out.hB⟩
      have hfw : Fr O w w5 := hfr.step (hfr5.mono fun x _ e => by rw [e]; exact hb2.2.2.1)
      have HX := Lib.hid (show WP w5 O bw bd n An cn d (.slice (some ⟨b2, o2, none⟩) now.length c2) A3 c3 ∧ Fr O w w5 from ⟨hWP, hfw⟩)
      clear hWP hfw g0 g2 g3 y3 hfr hfr5
      go_wp2_with fail
      go_ret
      exact ⟨d, now, _, c2, A3, c3, rfl, HD2.out, HX.out.1, HX.out.2⟩
    · obtain ⟨r', u, hru⟩ : ∃ r' u, rest = r' ++ [u] := ⟨rest.dropLast, rest.getLast (List.ne_nil_of_length_pos hp), (List.dropLast_concat_getLast _).symm⟩
      subst hru
      have hO3 := HM.out.rest
      have hlen2 : (r' ++ [u]).length = r'.length + 1 := by simp
      rw [hlen2] at hO3 g3 hrl
      have hmap : (r' ++ [u]).map iv = r'.map iv ++ [iv u] := by simp
      rw [hmap] at hO3
      obtain ⟨b3, o3, rfl⟩ := hO3.some (by omega)
      have c1 := (hO3.cellAt (i := r'.length) (u := iv u) (by simp)).1
      have hun : u < n := HD2.out.lt u (HD2.out.sub u (by simp))
      have hD3 := HD2.out.pop
      obtain ⟨L, hL⟩ : ∃ L, L = r'.length := ⟨_, rfl⟩
      rw [← hL] at hO3 g3 hrl c1
      have hO4 := hO3.front
      have hco := hO3.le
      have hb3 := HM.out.f3 b3 ⟨_, rfl, rfl⟩
      have HLL := Lib.hid hL
      have hsub : ((L + 1 : Nat) : Int) - 1 = (L : Int) := by omega
      have hsub' : (L : Int) + 1 - 1 = (L : Int) := by omega
      have hwr : IntKind.i64.wrap (L : Int) = (L : Int) := by rw [IntKind.wrap_i64]; omega
      have hLi : (L : Int) < ((L + 1 : Nat) : Int) := by omega
      have hLc : (L : Int) ≤ (c3 : Int) := by omega
      have hLi2 : (L : Int) < (L : Int) + 1 := by omega
      simp only [iv] at c1
      have HO4 := Lib.hid hO4
      have HD3 := Lib.hid hD3
      clear hO3 hlen2 hmap hO4 hD3 hL hp
      go_wp2_with fail
      go_quiet (fail)
      go_upto_region 6 with (fail)
      have hq : Fr No wr (wr.drewN nq) := (Fr.refl No wr).drewN nq
      have y3 := hq.frz g3 y3 id
      have g3 := hq.cell g3 id
      have g0 := hq.cell g0 id
      have hMq : WM (wr.drewN nq) O bw bd n An cn d now r' A2 c2 (some ⟨b3, o3, none⟩) c3 → True := fun _ => trivial
      have hdrq := HM.out.hdr.fr hq id
      have hdonq := HM.out.don.fr hq fun _ _ => id
      have hnowq := HM.out.now.fr hq fun _ _ => id
      have hO4q := HO4.out.fr hq fun _ _ => id
      have hfrq := hfr.step hq.any
      generalize wr.drewN nq = wq at hdrq hdonq hnowq hO4q hfrq g3 y3 g0 ⊢
      have hfs : Fr (fun x => x = bw) wq (wq.setCell ⟨bw, 3, none⟩ (.slice (some ⟨b3, o3, none⟩) L c3)) := (Fr.refl (fun x => x = bw) wq).setCell _ _ fun _ => rfl
      have hM5 : WM (wq.setCell ⟨bw, 3, none⟩ (.slice (some ⟨b3, o3, none⟩) L c3)) O bw bd n An cn d now r' A2 c2 (some ⟨b3, o3, none⟩) c3 := by
        have hLL := HLL.out
        subst hLL
        exact ⟨hdrq.set 3 _, hdonq.fr hfs fun x hx e => (by obtain ⟨ad, e1, e2⟩ := hx; injection e1 with e1; subst e1; subst e2; exact HM.out.ne e.symm), hnowq.fr hfs fun x hx e => (HM.out.f2 x hx).1 e,
          hO4q.fr hfs fun x hx e => (HM.out.f3 x hx).1 e, HM.out.f2, HM.out.f3, HM.out.ne, HM.out.hB⟩
      have hfr5 : Fr O w (wq.setCell ⟨bw, 3, none⟩ (.slice (some ⟨b3, o3, none⟩) L c3)).drew := (hfrq.step (hfs.mono fun x _ e => by rw [e]; exact HM.out.hB.1)).drew
      have HM5 := Lib.hid hM5
      clear hMq hdrq hdonq hnowq hO4q hfrq hfs hM5 hfr hq
      go_still_tail 14, (by kernel_rfl)
      go_upto_region 7 with (fail)
      have hMd : WM (wq.setCell ⟨bw, 3, none⟩ (.slice (some ⟨b3, o3, none⟩) L c3)).drew O bw bd n An cn d now r' A2 c2 (some ⟨b3, o3, none⟩) c3 :=
        ⟨HM5.out.hdr.fr ((Fr.refl No _).drew) id, HM5.out.don.fr ((Fr.refl No _).drew) fun _ _ => id, HM5.out.now.fr ((Fr.refl No _).drew) fun _ _ => id, HM5.out.rest.fr ((Fr.refl No _).drew) fun _ _ => id, HM5.out.f2, HM5.out.f3, HM5.out.ne, HM5.out.hB⟩
      generalize (wq.setCell ⟨bw, 3, none⟩ (.slice (some ⟨b3, o3, none⟩) L c3)).drew = wz at hMd hfr5 ⊢
      have g0 := hMd.hdr.cell 0
      simp only [List.getElem?_toArray, List.getElem?_cons_zero] at g0
      obtain ⟨bn, on, rfl, hbn, Au, cu, hrc0, hrd, hAu⟩ := HN.out u hun
      have hrc := hfr5.cell hrc0 (fun h => hbn h)
      have HUS := Lib.hid (show (∀ x, adj u x ↔ x ∈ rows u) ∧ (rows u).length ≤ 1000000 from ⟨fun x => HR.out u x hun, HLN.out u hun⟩)
      have HMd := Lib.hid hMd
      have hul := HLN.out u hun
      have HRD := Lib.hid (show Rd w 1 Au (rows u).length ((rows u).map iv) ∧ ∀ x, InA Au x → ¬ O x from ⟨hrd, hAu⟩)
      have hui : (u : Int) < (n : Int) := by omega
      have hunow := HD2.out.sub u (by simp)
      have HG5 := Lib.hid (show 2 * (n - now.length) + r'.length < gk from by rw [HGK.out]; simp)
      have HDX := Lib.hid ((HD3.out).weaken (Y := fun a b => a = u ∧ b ∈ rows u) fun a b hab ha => ⟨ha, (HR.out u b hun).1 (by rw [← ha]; exact hab)⟩)
      clear hMd hrd hAu g3 y3 c1 HM5 HO4 hrc0
      generalize rows u = us at hrc HUS HRD hul HDX
      go_wp2_with fail
      go_loopg [57] us.length (PieceRelI w O bw bd n (some ⟨bn, on, none⟩) cn adj dn v u us (2 * (n - now.length) + r'.length))
      case atStart => exact ⟨0, d, now, r', A2, c2, _, c3, rfl, by omega, by omega, HMd.out, by simpa using HDX.out, hunow, hfr5, Nat.le_refl _⟩
      case round =>
        clear g0 hrc
        obtain ⟨i, d5, now5, rest5, A5, c5, A6, c6, rfl, hi, hg6, hM6, hD6, hu6, hfr6, hG6⟩ := hrel
        have HG6 := Lib.hid hg6
        have HGG := Lib.hid hG6
        have HD6 := Lib.hid hD6
        have HM6 := Lib.hid hM6
        have hnl5 : now5.length ≤ n := nodup_le hD6.nod hD6.lt
        have hrl5 : rest5.length ≤ n := nodup_le hD6.rnod fun x hx => hD6.lt x (hD6.sub x hx)
        have hBr6 : ∀ x, wr.heap.size ≤ x → O x := fun x hx => hBw x (Nat.le_trans hfr6.size hx)
        clear hg6 hG6 hD6 hM6
        by_cases hlt6 : i < us.length
        · obtain ⟨bu, ou, rfl, hcu⟩ := (HRD.out.1.fr hfr6 fun b hb h => HRD.out.2 b hb h).at_ (by rw [List.length_map]; omega)
          have c1 := hcu i (iv us[i]) (by simp [hlt6])
          have hdrop : us.drop i = us[i] :: us.drop (i + 1) := List.drop_eq_getElem_cons hlt6
          have hax : adj u us[i] := (HUS.out.1 _).2 (List.getElem_mem hlt6)
          have hii : (i : Int) < (us.length : Int) := by omega
          have HDR := Lib.hid hdrop
          clear hcu hdrop
          generalize us[i] = x at c1 hax HDR
          have hxn := HLT.out u x hax
          have HDY := Lib.hid (HD6.out.weaken (Y := fun a b => a = u ∧ (b = x ∨ b ∈ us.drop (i + 1))) fun a b _ h => ⟨h.1, by have := h.2; rw [HDR.out] at this; simpa using this⟩)
          simp only [iv] at c1
          cases hdx : d5 x with
          | true =>
            have HDX2 := Lib.hid (HDY.out.met hdx)
            have HH := Lib.hid hdx
            clear hdx
            go_wp2_with fail
            refine (come_met HM6.out hxn HH.out).mono ?_
            rintro e w7 ⟨rfl, A7, c7, A8, c8, hM7, hfr7⟩
            have HM7 := Lib.hid hM7
            have hfr8 := hfr6.step hfr7
            clear hM7 hfr7 c1
            go_wp2_with fail
            go_roundg (us.length - (i + 1))
            case measure => rw [HG6.out]; omega
            case rel => exact ⟨i + 1, d5, now5, rest5, A7, c7, A8, c8, rfl, by omega, rfl, HM7.out, HDX2.out, hu6, hfr8, HGG.out⟩
          | false =>
            have hDf := HDY.out.fresh hu6 hax hxn hdx
            have hnl7 : (now5 ++ [x]).length ≤ n := nodup_le hDf.nod hDf.lt
            have HDX2 := Lib.hid hDf
            have HH := Lib.hid hdx
            have HNL := Lib.hid (show now5.length + 1 ≤ n from by simpa using hnl7)
            clear hdx hDf hnl7
            go_wp2_with fail
            refine (come_new HM6.out hBr6 hxn HH.out (by omega) (by omega)).mono ?_
            rintro e w7 ⟨rfl, A7, c7, A8, c8, hM7, hfr7⟩
            have HM7 := Lib.hid hM7
            have hfr8 := hfr6.step hfr7
            clear hM7 hfr7 c1
            go_wp2_with fail
            go_roundg (us.length - (i + 1))
            case measure => rw [HG6.out]; omega
            case rel => exact ⟨i + 1, _, now5 ++ [x], rest5 ++ [x], A7, c7, A8, c8, rfl, by omega, rfl, HM7.out, HDX2.out, by simp [hu6], hfr8, by have h1 := HGG.out; have h2 := HNL.out; simp; omega⟩
        · have : i = us.length := by omega
          subst this
          have hDe := HD6.out.weaken (Y := fun _ _ => False) fun a b _ h => by have := h.2; rw [List.drop_length] at this; cases this
          have HDE := Lib.hid hDe
          clear hDe
          go_wp2_with fail
          go_roundg (2 * (n - now5.length) + rest5.length)
          case measure => have := HG5.out; have := HGG.out; omega
          case rel => exact ⟨d5, now5, rest5, A5, c5, A6, c6, HM6.out, HDE.out, hfr6, rfl⟩
end Gar
