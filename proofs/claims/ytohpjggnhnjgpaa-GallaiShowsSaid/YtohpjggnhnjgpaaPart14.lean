/-
  PROVED: lemmas of the claim; no condition beyond what each one states.
  Walks: slices.Sort (what it leaves alone), (*walk).come.
-/
import Derived.Test.YtohpjggnhnjgpaaPart7
import Derived.Test.YtohpjggnhnjgpaaPart13
import Derived.Test.YtohpjggnhnjgpaaPart8
import Derived.Test.YtohpjggnhnjgpaaPart11
set_option linter.unusedVariables false
set_option linter.unusedSimpArgs false

namespace Gar
open Go Go.RowKit Go.Proofs Go.Sort
set_option maxRecDepth 100000
set_option maxHeartbeats 1600000
variable {w : World} {n : Nat}

theorem sort_spec {b o c : Nat} {l : List Nat} (hO : Ow w 1 (some ⟨b, o, none⟩) l.length c (l.map iv)) (hl : l.length ≤ 1000000) :
    Calls Try.prog 77 #[.slice (some ⟨b, o, none⟩) l.length c] w (fun e w' => e = .returned (.tuple #[]) ∧ Fr (fun x => x = b) w w') := by
  have hlt := hO.lt b ⟨_, rfl, rfl⟩
  have hH : Holds (Value.int .i64) w b o (l.map Int.ofNat).toArray := by
    intro j hj
    simp only [List.size_toArray, List.length_map] at hj
    have h1 := hO.cellAt (i := j) (u := iv l[j]) (by simp [hj])
    refine ⟨?_, h1.2⟩
    rw [h1.1]
    simp [iv, hj]
  have hc := Any.slices_Sort_int Try.sortLays b o c (l.map Int.ofNat) w hH hlt (by rw [List.length_map]; omega)
  rw [List.length_map] at hc
  refine hc.mono ?_
  rintro e w' ⟨rfl, k, os, rfl⟩
  refine ⟨rfl, rfl, rfl, rfl, by simp [grow, putRow, mapBlock, Go.Sort.ahead], fun x hx hne => ?_⟩
  rw [heap_grow_old _ _ (by simpa [putRow, mapBlock, Go.Sort.ahead] using hx)]
  simp only [putRow, mapBlock, Go.Sort.ahead]
  rw [Array.getElem?_modify]
  have : ¬ b = x := fun e => hne e.symm
  simp [this]

/-- Marks of numbers. -/
def bl (n : Nat) (d : Nat → Bool) : List Value := (List.range n).map fun v => .bool (d v)
theorem bl_get {n v : Nat} {d : Nat → Bool} (h : v < n) : (bl n d)[v]? = some (.bool (d v)) := by simp [bl, h]
theorem bl_put {n x : Nat} {d : Nat → Bool} : (bl n d).set x (.bool true) = bl n (put1 d x) := by
  apply List.ext_getElem?
  intro v
  rw [List.getElem?_set]
  by_cases hv : v < n
  · rw [bl_get hv, bl_get hv]
    by_cases e : x = v
    · subst e; simp [bl, hv, put1]
    · simp [e, put1, Ne.symm e]
  · have h1 : ∀ d : Nat → Bool, (bl n d)[v]? = none := fun d => List.getElem?_eq_none (by simp [bl]; omega)
    rw [h1, h1]
    by_cases e : x = v
    · simp [e, bl, hv]
    · simp [e]

/-- One who goes through a graph, in memory. -/
structure WM (w : World) (O : Nat → Prop) (bw bd n : Nat) (An : Option Addr) (cn : Nat) (dn : Nat → Bool) (now rest : List Nat) (A2 : Option Addr) (c2 : Nat) (A3 : Option Addr) (c3 : Nat) : Prop where
  hdr : Cs w bw #[.slice An n cn, .slice (some ⟨bd, 0, none⟩) n n, .slice A2 now.length c2, .slice A3 rest.length c3]
  don : Ow w 1 (some ⟨bd, 0, none⟩) n n (bl n dn)
  now : Ow w 1 A2 now.length c2 (now.map iv)
  rest : Ow w 1 A3 rest.length c3 (rest.map iv)
  f2 : ∀ x, InA A2 x → x ≠ bw ∧ x ≠ bd ∧ O x ∧ ¬ InA A3 x
  f3 : ∀ x, InA A3 x → x ≠ bw ∧ x ≠ bd ∧ O x
  ne : bw ≠ bd
  hB : O bw ∧ O bd

def ComePost (w : World) (O : Nat → Prop) (bw bd n : Nat) (An : Option Addr) (cn : Nat) (dn : Nat → Bool) (now rest : List Nat) (e : Ending) (w' : World) : Prop :=
  e = .returned (.tuple #[]) ∧ ∃ A2 c2 A3 c3, WM w' O bw bd n An cn dn now rest A2 c2 A3 c3 ∧ Fr O w w'

theorem come_met {O : Nat → Prop} {bw bd cn c2 c3 v : Nat} {An A2 A3 : Option Addr} {dn : Nat → Bool} {now rest : List Nat} (h : WM w O bw bd n An cn dn now rest A2 c2 A3 c3) (hv : v < n) (hd : dn v = true) :
    Calls Try.prog 76 #[.pointer (some ⟨bw, 0, none⟩), .int .i64 (v : Int)] w (ComePost w O bw bd n An cn dn now rest) := by
  have g1 := h.hdr.cell 1
  simp only [List.getElem?_toArray, List.getElem?_cons_zero, List.getElem?_cons_succ] at g1
  have c1 := (h.don.cellAt (bl_get (d := dn) hv)).1
  rw [hd] at c1
  simp only [Nat.zero_add] at c1
  have hvi : (v : Int) < (n : Int) := by omega
  have H := Lib.hid h
  clear h hd
  go_enter Try.func76, Try.ntmps76
  go_wp2_with fail
  refine bodyPost_end (results_none rfl _ _ _) rfl ?_
  exact ⟨rfl, _, _, _, _, H.out, Fr.refl _ _⟩

theorem come_new {O : Nat → Prop} {bw bd cn c2 c3 v : Nat} {An A2 A3 : Option Addr} {dn : Nat → Bool} {now rest : List Nat} (h : WM w O bw bd n An cn dn now rest A2 c2 A3 c3) (hBw : ∀ x, w.heap.size ≤ x → O x) (hv : v < n) (hd : dn v = false) (hl1 : now.length ≤ 1000000) (hl2 : rest.length ≤ 1000000) :
    Calls Try.prog 76 #[.pointer (some ⟨bw, 0, none⟩), .int .i64 (v : Int)] w (ComePost w O bw bd n An cn (put1 dn v) (now ++ [v]) (rest ++ [v])) := by
  obtain ⟨i0, hi, hz0, hz1, hz2⟩ := info_parts info_int
  have g1 := h.hdr.cell 1
  have g2 := h.hdr.cell 2
  simp only [List.getElem?_toArray, List.getElem?_cons_zero, List.getElem?_cons_succ] at g1 g2
  have c1 := (h.don.cellAt (bl_get (d := dn) hv)).1
  have z1 := (h.don.cellAt (bl_get (d := dn) hv)).2
  rw [hd] at c1
  simp only [Nat.zero_add] at c1 z1
  have hvi : (v : Int) < (n : Int) := by omega
  have H := Lib.hid h
  have hfs : Fr (fun x => x = bd) w (w.setCell ⟨bd, v, none⟩ (.bool true)) := (Fr.refl (fun x => x = bd) w).setCell _ _ fun _ => rfl
  have hdon := h.don.set v (.bool true)
  rw [bl_put] at hdon
  simp only [Nat.zero_add] at hdon
  clear h hd
  go_enter Try.func76, Try.ntmps76
  go_upto_region 2 with (fail)
  have hdr1 := H.out.hdr.fr hfs H.out.ne
  have hnow1 := H.out.now.fr hfs fun x hx e => (H.out.f2 x hx).2.1 e
  have hrest1 := H.out.rest.fr hfs fun x hx e => (H.out.f3 x hx).2.1 e
  have f1 : Fr O w (w.setCell ⟨bd, v, none⟩ (.bool true)) := hfs.mono fun x _ e => by rw [e]; exact H.out.hB.2
  generalize w.setCell ⟨bd, v, none⟩ (.bool true) = w1 at hfs hdon hdr1 hnow1 hrest1 f1 ⊢
  clear g1 g2 c1 z1 hfs
  have g2 := hdr1.cell 2
  have y2 := hdr1.frozen 2
  simp only [List.getElem?_toArray, List.getElem?_cons_zero, List.getElem?_cons_succ] at g2
  have n2 : ¬ InA A2 bw := fun h => (H.out.f2 bw h).1 rfl
  have n2d : ∀ x, InA A2 x → O x := fun x hx => (H.out.f2 x hx).2.2.1
  go_upto_region 3 with (at_builtin; refine wpList_append_to rfl (.tmp 22) (.tmp 24) 22 rfl 3 i0 (.int .i64 0) 1 8 Try.underlying22 hi hz0 hz1 hz2 rfl (by decide) (now.length + 1) (now.map iv ++ [iv v]) rfl (hnow1.fr ((Fr.refl No _).alloc _) fun _ _ => id) rfl (Rd.one (World.cell?_alloc_new _ _ _ 0)) (by simp [Value.oneCell']) rfl rfl (by omega) (by simp only [maxLen]; omega) ?_; intro A4 c4 w4 hO4 hfr4 hA4; have t2 := hfr4.cell (cell_alloc g2 _) n2; have x2 := hfr4.frz (cell_alloc g2 _) (frz_alloc g2 y2 _) n2)
  have hal : Fr No w1 (w1.alloc (.cells #[.int .i64 (v : Int)] 3)) := (Fr.refl _ _).alloc _
  have f4 : Fr O w w4 := (f1.step hal.any).trans hfr4 fun x _ hx => n2d x hx
  have hdr4 := (hdr1.fr hal id).fr hfr4 n2
  have hdon4 := (hdon.fr hal fun _ _ => id).fr hfr4 fun x hx h => by obtain ⟨ad, e, e2⟩ := hx; injection e with e; subst e; subst e2; exact (H.out.f2 bd h).2.1 rfl
  have hrest4 := (hrest1.fr hal fun _ _ => id).fr hfr4 fun x hx h => (H.out.f2 x h).2.2.2 hx
  have hsz1 : w.heap.size ≤ w1.heap.size := f1.size
  have hltw : bw < w1.heap.size := hdr1.lt
  have hltd : bd < w1.heap.size := hdon.lt bd ⟨_, rfl, rfl⟩
  have hlt3 : ∀ x, InA A3 x → x < w1.heap.size := hrest1.lt
  have hA4' : ∀ x, InA A4 x → x ≠ bw ∧ x ≠ bd ∧ O x ∧ ¬ InA A3 x := fun x hx => by
    rcases hA4 x hx with h | h
    · exact H.out.f2 x h
    · simp at h
      exact ⟨by omega, by omega, hBw x (by omega), fun h3 => by have := hlt3 x h3; omega⟩
  have hfs4 : Fr (fun x => x = bw) w4 (w4.setCell ⟨bw, 2, none⟩ (.slice A4 (now.length + 1) c4)) := (Fr.refl (fun x => x = bw) w4).setCell _ _ fun _ => rfl
  have hdr5 := hdr4.set 2 (.slice A4 (now.length + 1) c4)
  have hdon5 := hdon4.fr hfs4 fun x hx e => by obtain ⟨ad, e1, e2⟩ := hx; injection e1 with e1; subst e1; subst e2; exact H.out.ne e.symm
  have hnow5 := hO4.fr hfs4 fun x hx e => (hA4' x hx).1 e
  have hrest5 := hrest4.fr hfs4 fun x hx e => (H.out.f3 x hx).1 e
  have f5 : Fr O w (w4.setCell ⟨bw, 2, none⟩ (.slice A4 (now.length + 1) c4)) := f4.step (hfs4.mono fun x _ e => by rw [e]; exact H.out.hB.1)
  have hdr5' : Cs (w4.setCell ⟨bw, 2, none⟩ (.slice A4 (now.length + 1) c4)) bw #[.slice An n cn, .slice (some ⟨bd, 0, none⟩) n n, .slice A4 (now.length + 1) c4, .slice A3 rest.length c3] := hdr5
  generalize w4.setCell ⟨bw, 2, none⟩ (.slice A4 (now.length + 1) c4) = w5 at hdon5 hnow5 hrest5 f5 hdr5' ⊢
  have g3 := hdr5'.cell 3
  have y3 := hdr5'.frozen 3
  simp only [List.getElem?_toArray, List.getElem?_cons_zero, List.getElem?_cons_succ] at g3
  have n3 : ¬ InA A3 bw := fun h => (H.out.f3 bw h).1 rfl
  clear g2 y2 t2 x2 hfs4 hdr5 hdr4 hdon4 hrest4 hdr1 hnow1 hrest1 hdon f1 f4 hfr4 hal hO4 hA4 n2
  have hltw5 : bw < w5.heap.size := hdr5'.lt
  have hltd5 : bd < w5.heap.size := hdon5.lt bd ⟨_, rfl, rfl⟩
  have hlt4 : ∀ x, InA A4 x → x < w5.heap.size := hnow5.lt
  have hsz5 : w.heap.size ≤ w5.heap.size := f5.size
  go_wp2_with (at_builtin; refine wpList_append_to rfl (.tmp 32) (.tmp 34) 22 rfl 3 i0 (.int .i64 0) 1 8 Try.underlying22 hi hz0 hz1 hz2 rfl (by decide) (rest.length + 1) (rest.map iv ++ [iv v]) rfl (hrest5.fr ((Fr.refl No _).alloc _) fun _ _ => id) rfl (Rd.one (World.cell?_alloc_new _ _ _ 0)) (by simp [Value.oneCell']) rfl rfl (by omega) (by simp only [maxLen]; omega) ?_; intro A6 c6 w6 hO6 hfr6 hA6; have t3 := hfr6.cell (cell_alloc g3 _) n3; have x3 := hfr6.frz (cell_alloc g3 _) (frz_alloc g3 y3 _) n3)
  have hal : Fr No w5 (w5.alloc (.cells #[.int .i64 (v : Int)] 3)) := (Fr.refl _ _).alloc _
  have hA6' : ∀ x, InA A6 x → x ≠ bw ∧ x ≠ bd ∧ O x ∧ ¬ InA A4 x := fun x hx => by
    rcases hA6 x hx with h | h
    · exact ⟨(H.out.f3 x h).1, (H.out.f3 x h).2.1, (H.out.f3 x h).2.2, fun h4 => (hA4' x h4).2.2.2 h⟩
    · simp at h
      exact ⟨by omega, by omega, hBw x (by omega), fun h4 => by have := hlt4 x h4; omega⟩
  have hfs6 : Fr (fun x => x = bw) w6 (w6.setCell ⟨bw, 3, none⟩ (.slice A6 (rest.length + 1) c6)) := (Fr.refl (fun x => x = bw) w6).setCell _ _ fun _ => rfl
  have hdr6 := ((hdr5'.fr hal id).fr hfr6 n3).set 3 (.slice A6 (rest.length + 1) c6)
  have hdon6 := ((hdon5.fr hal fun _ _ => id).fr hfr6 fun x hx h => by obtain ⟨ad, e, e2⟩ := hx; injection e with e; subst e; subst e2; exact (H.out.f3 bd h).2.1 rfl).fr hfs6 fun x hx e => by obtain ⟨ad, e1, e2⟩ := hx; injection e1 with e1; subst e1; subst e2; exact H.out.ne e.symm
  have hnow6 := ((hnow5.fr hal fun _ _ => id).fr hfr6 fun x hx h => (hA4' x hx).2.2.2 h).fr hfs6 fun x hx e => (hA4' x hx).1 e
  have hrest6 := hO6.fr hfs6 fun x hx e => (hA6' x hx).1 e
  have f6 : Fr O w (w6.setCell ⟨bw, 3, none⟩ (.slice A6 (rest.length + 1) c6)) := ((f5.step hal.any).trans hfr6 fun x _ hx => (H.out.f3 x hx).2.2).step (hfs6.mono fun x _ e => by rw [e]; exact H.out.hB.1)
  refine bodyPost_end (results_none rfl _ _ _) rfl ?_
  refine ⟨rfl, A4, c4, A6, c6, ⟨?_, hdon6, ?_, ?_, ?_, ?_, H.out.ne, H.out.hB⟩, f6⟩
  · simp only [List.length_append, List.length_cons, List.length_nil]; exact hdr6
  · simp only [List.length_append, List.length_cons, List.length_nil, List.map_append, List.map_cons, List.map_nil]; exact hnow6
  · simp only [List.length_append, List.length_cons, List.length_nil, List.map_append, List.map_cons, List.map_nil]; exact hrest6
  · exact fun x hx => ⟨(hA4' x hx).1, (hA4' x hx).2.1, (hA4' x hx).2.2.1, fun h => (hA6' x h).2.2.2 hx⟩
  · exact fun x hx => ⟨(hA6' x hx).1, (hA6' x hx).2.1, (hA6' x hx).2.2.1⟩
end Gar
