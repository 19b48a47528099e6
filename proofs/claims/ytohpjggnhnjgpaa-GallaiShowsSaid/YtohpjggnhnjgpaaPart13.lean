/-
  PROVED: lemmas of the claim; no condition beyond what each one states.
  Walks: Lists.
-/
import Derived.Test.YtohpjggnhnjgpaaPart12
import Derived.Test.YtohpjggnhnjgpaaPart2
import Derived.Test.YtohpjggnhnjgpaaPart3
import Derived.Test.YtohpjggnhnjgpaaPart1
set_option linter.unusedVariables false
set_option linter.unusedSimpArgs false

namespace Gar
open Go Go.RowKit Go.Proofs
set_option maxRecDepth 100000
set_option maxHeartbeats 1600000
variable {w : World} {n : Nat} {es : List (Nat × Nat)}

/-- Rows of one's own: block b has n slices, each in a block of its own. -/
structure OwnRows (w : World) (B b n : Nat) (rows : Nat → List Nat) (A : Nat → Option Addr) (c : Nat → Nat) : Prop where
  cs : ∃ cs, Cs w b cs ∧ n ≤ cs.size ∧ ∀ v, v < n → cs[v]? = some (.slice (A v) (rows v).length (c v))
  row : ∀ v, v < n → Ow w 1 (A v) (rows v).length (c v) ((rows v).map iv)
  far : ∀ v, v < n → ∀ x, InA (A v) x → x ≠ b ∧ B ≤ x
  dis : ∀ v u, v < n → u < n → v ≠ u → ∀ x, InA (A v) x → ¬ InA (A u) x

theorem OwnRows.fr {B b : Nat} {rows : Nat → List Nat} {A : Nat → Option Addr} {c : Nat → Nat} {S : Nat → Prop} {w w' : World} (h : OwnRows w B b n rows A c) (k : Fr S w w') (hb : ¬ S b) (hS : ∀ x, S x → ¬ B ≤ x) : OwnRows w' B b n rows A c := by
  obtain ⟨cs, h1, h2, h3⟩ := h.cs
  exact ⟨⟨cs, h1.fr k hb, h2, h3⟩, fun v hv => (h.row v hv).fr k fun x hx hs => hS x hs (h.far v hv x hx).2, h.far, h.dis⟩
theorem OwnRows.no {B b : Nat} {rows : Nat → List Nat} {A : Nat → Option Addr} {c : Nat → Nat} {w w' : World} (h : OwnRows w B b n rows A c) (k : Fr No w w') : OwnRows w' B b n rows A c := h.fr k id fun _ h => h.elim
theorem OwnRows.cellAt {B b : Nat} {rows : Nat → List Nat} {A : Nat → Option Addr} {c : Nat → Nat} {w : World} (h : OwnRows w B b n rows A c) {v : Nat} (hv : v < n) :
    w.cell? ⟨b, v, none⟩ = some (.slice (A v) (rows v).length (c v)) ∧ w.frozen? ⟨b, v, none⟩ = false := by
  obtain ⟨cs, h1, h2, h3⟩ := h.cs
  exact ⟨by rw [h1.cell]; exact h3 v hv, h1.frozen _⟩
/-- One more to a row. -/
theorem OwnRows.push {B b : Nat} {rows : Nat → List Nat} {A : Nat → Option Addr} {c : Nat → Nat} {w w5 : World} (h : OwnRows w B b n rows A c) {v u : Nat} (hv : v < n) {A2 : Option Addr} {c2 : Nat} (hB : B ≤ w.heap.size)
    (hO : Ow w5 1 A2 ((rows v).length + 1) c2 ((rows v).map iv ++ [iv u])) (hfr : Fr (InA (A v)) w w5) (hA : ∀ x, InA A2 x → InA (A v) x ∨ w.heap.size ≤ x) {rows' : Nat → List Nat} (hr : rows' = fun x => if x = v then rows v ++ [u] else rows x) :
    OwnRows (w5.setCell ⟨b, v, none⟩ (.slice A2 ((rows v).length + 1) c2)) B b n rows' (fun x => if x = v then A2 else A x) (fun x => if x = v then c2 else c x) := by
  subst hr
  obtain ⟨cs, h1, h2, h3⟩ := h.cs
  have hbv : ¬ InA (A v) b := fun hb => (h.far v hv b hb).1 rfl
  have h5 := h1.fr hfr hbv
  have hbw : b < w.heap.size := h1.lt
  have hset : Fr (fun x => x = b) w5 (w5.setCell ⟨b, v, none⟩ (.slice A2 ((rows v).length + 1) c2)) := (Fr.refl (fun x => x = b) w5).setCell ⟨b, v, none⟩ _ fun _ => rfl
  have far2 : ∀ x, InA A2 x → x ≠ b ∧ B ≤ x := fun x hx => by
    rcases hA x hx with k | k
    · exact h.far v hv x k
    · exact ⟨by omega, by omega⟩
  refine ⟨⟨_, h5.set v _, by simpa using h2, fun x hx => ?_⟩, fun x hx => ?_, fun x hx y hy => ?_, fun x y hx hy hne z hz hz' => ?_⟩
  · by_cases e : x = v
    · subst e; rw [Array.getElem?_setIfInBounds_self_of_lt (by omega)]; simp
    · rw [Array.getElem?_setIfInBounds_ne (Ne.symm e), h3 x hx]; simp [e]
  · by_cases e : x = v
    · subst e
      simp only [if_true, List.length_append, List.length_cons, List.length_nil, List.map_append, List.map_cons, List.map_nil]
      exact hO.fr hset fun y hy e => (far2 y hy).1 e
    · simp only [e, if_false]
      exact ((h.row x hx).fr hfr fun y hy => h.dis x v hx hv e y hy).fr hset fun y hy e => (h.far x hx y hy).1 e
  · by_cases e : x = v
    · simp only [e, if_true] at hy; exact far2 y hy
    · simp only [e, if_false] at hy; exact h.far x hx y hy
  · have old : ∀ t y, t < n → InA (A t) y → y < w.heap.size := fun t y ht hy => (h.row t ht).lt y hy
    by_cases e : x = v <;> by_cases e' : y = v
    · exact hne (e.trans e'.symm)
    · simp only [e, e', if_true, if_false] at hz hz'
      rcases hA z hz with k | k
      · exact h.dis v y hv hy (Ne.symm e') z k hz'
      · have := old y z hy hz'; omega
    · simp only [e, e', if_true, if_false] at hz hz'
      rcases hA z hz' with k | k
      · exact h.dis x v hx hv e z hz k
      · have := old x z hx hz; omega
    · simp only [e, e', if_false] at hz hz'
      exact h.dis x y hx hy hne z hz hz'
theorem OwnRows.nearT {B b : Nat} {rows : Nat → List Nat} {A : Nat → Option Addr} {c : Nat → Nat} {w : World} (h : OwnRows w B b n rows A c) (hb : B ≤ b) : NearT w (some ⟨b, 0, none⟩) n rows (fun x => B ≤ x) := fun v hv =>
  ⟨b, 0, rfl, hb, A v, c v, by simpa using (h.cellAt hv).1, (h.row v hv).rd, fun x hx => (h.far v hv x hx).2⟩

def ListsPost (w : World) (n : Nat) (es : List (Nat × Nat)) (e : Ending) (w' : World) : Prop :=
  ∃ b A c, e = .returned (.slice (some ⟨b, 0, none⟩) n n) ∧ w.heap.size ≤ b ∧ OwnRows w' w.heap.size b n (rowsOf es) A c ∧ Fr No w w'

def LRel (w : World) (b n : Nat) (R : Nat → Nat → List Nat) (m : Nat) (g : Nat) (x : Value) (wr : World) : Prop :=
  ∃ (i : Nat) (A : Nat → Option Addr) (c : Nat → Nat), x = .int .i64 (i : Int) ∧ i ≤ m ∧ g = m - i ∧ OwnRows wr w.heap.size b n (R i) A c ∧ Fr No w wr

theorem LRel.step {w w2 w5 : World} {b m i v u : Nat} {R : Nat → Nat → List Nat} {A : Nat → Option Addr} {c : Nat → Nat} {A5 : Option Addr} {c5 L : Nat} {o : Obj} (hL : (R i v).length = L) (h : OwnRows w2 w.heap.size b n (R i) A c) (hfr2 : Fr No w w2) (hB : w.heap.size ≤ b) (hv : v < n)
    (hR : R (i + 1) = fun x => if x = v then R i v ++ [u] else R i x) (hO5 : Ow w5 1 A5 (L + 1) c5 ((R i v).map iv ++ [iv u])) (hfr5 : Fr (InA (A v)) (w2.alloc o).drew w5) (hA5 : ∀ x, InA A5 x → InA (A v) x ∨ (w2.alloc o).drew.heap.size ≤ x) (hi : i < m) :
    LRel w b n R m (m - (i + 1)) (.int .i64 ((i : Int) + 1)) (w5.setCell ⟨b, v, none⟩ (.slice A5 (L + 1) c5)) := by
  subst hL
  have hal : Fr No w2 (w2.alloc o).drew := ((Fr.refl No _).alloc _).drew
  exact ⟨i + 1, _, _, rfl, by omega, rfl, (h.no hal).push hv (Nat.le_trans hfr2.size hal.size) hO5 hfr5 hA5 hR,
    ((hfr2.step hal).new hfr5 fun x hx => (h.far v hv x hx).2).setCell _ _ fun h => absurd h (by show ¬ b < _; omega)⟩

theorem info_ints : (Try.prog.info? 22).map (fun i => (i.zero, i.size, i.bytes)) = some (some (.slice none 0 0), 1, 24) := by kernel_rfl

theorem lists_spec {Ae : Option Addr} {ce : Nat} (hG : Good n es) (hR : Rd w 2 Ae es.length (cellsOf es)) :
    Calls Try.prog 30 #[.int .i64 (n : Int), .slice Ae es.length ce] w (ListsPost w n es) := by
  have hn := hG.n_le
  have hm := hG.m_le
  have HG := Lib.hid hG
  have HR := Lib.hid hR
  clear hG hR
  obtain ⟨iS, hSi, hSz, hS1, hS2⟩ := info_parts info_ints
  obtain ⟨i0, hi, hz0, hz1, hz2⟩ := info_parts info_int
  go_enter Try.func30, Try.ntmps30
  go_wp2_with (at_make; refine wpList_make_ow rfl _ _ 33 rfl 22 iS (.slice none 0 0) Try.underlying33 hSi hSz hS1 (by simp [Value.cells]) _ _ _ _ n rfl rfl rfl rfl (by rw [hS2]; omega) (by simp only [maxLen]; omega) ?_; intro b w1 hb hO hfr)
  have hOR : OwnRows w1 w.heap.size b n (rowsA es 0) (fun _ => none) (fun _ => 0) := by
    rw [rowsA_zero]
    obtain ⟨_, cs, h2, h3, h4⟩ := hO.row _ rfl
    exact ⟨⟨cs, h2, by simpa using h3, fun v hv => by simpa using h4 v (.slice none 0 0) (by simp [hv])⟩, fun v hv => Ow.nil_ _ _, fun v hv x hx => (by obtain ⟨ad, h, _⟩ := hx; cases h), fun v u _ _ _ x hx => (by obtain ⟨ad, h, _⟩ := hx; cases h)⟩
  have HB := Lib.hid hb
  clear hO hb hSi hSz hS1 hS2
  go_loopg [14] es.length (LRel w b n (rowsA es) es.length)
  case atStart => exact ⟨0, _, _, rfl, by omega, by omega, hOR, hfr⟩
  case round =>
    clear hOR hfr
    obtain ⟨i, A, c, rfl, hi', hg, hO, hfr⟩ := hrel
    have HGK := Lib.hid hg
    clear hg
    by_cases hlt : i < es.length
    · obtain ⟨be, oe, rfl, hce⟩ := (HR.out.fr hfr fun _ _ => id).at_ (by rw [cellsOf_len]; omega)
      obtain ⟨k1, k2⟩ := cellsOf_get hlt
      have p1 := hce _ _ k1
      have p2 := hce _ _ k2
      obtain ⟨m1, m2⟩ := HG.out.mem _ (List.getElem_mem hlt)
      have m3 : es[i].1 < n := by omega
      have HS := Lib.hid (rowsA_succ hlt)
      have hrl := rowsA_len es i es[i].2
      clear hce k1 k2
      generalize es[i] = e at p1 p2 m1 m2 m3 HS hrl
      simp only [iv] at p1 p2
      rw [← Nat.add_assoc] at p2
      go_upto_region 5 with (fail)
      have n5 : ¬ InA (A e.2) wr.heap.size := fun h => by have := (hO.row _ m2).lt _ h; omega
      have f2 : Fr No wr (wr.alloc (.cells #[.int .i64 (e.1 : Int), .int .i64 (e.2 : Int)] 56)) := (Fr.refl _ _).alloc _
      have c5 := Cs.new wr 56 #[.int .i64 (e.1 : Int), .int .i64 (e.2 : Int)]
      have r1 := c5.cell 0
      have r2 := c5.cell 1
      generalize wr.alloc (.cells #[.int .i64 (e.1 : Int), .int .i64 (e.2 : Int)] 56) = w2 at f2 r1 r2 ⊢
      generalize wr.heap.size = b5 at r1 r2 n5 ⊢
      simp only [List.getElem?_toArray, List.getElem?_cons_zero, List.getElem?_cons_succ] at r1 r2
      have hO2 := hO.no f2
      have hfr2 := hfr.step f2
      clear c5 p1 p2 hO hfr f2
      have hrow := hO2.row e.2 m2
      obtain ⟨r3, z3⟩ := hO2.cellAt m2
      have nb : ¬ InA (A e.2) b := fun h => (hO2.far _ m2 _ h).1 rfl
      have HO2 := Lib.hid hO2
      have hn1 : (e.2 : Int) < (n : Int) := by omega
      clear hO2
      generalize hL : (rowsA es i e.2).length = L at hrow r3 hrl
      have HL := Lib.hid hL
      clear hL
      have r3' : (w2.alloc (.cells #[.int .i64 (e.1 : Int)] 3)).cell? ⟨b, e.2, none⟩ = some (.slice (A e.2) L (c e.2)) := cell_alloc r3 _
      have r1' : (w2.alloc (.cells #[.int .i64 (e.1 : Int)] 3)).cell? ⟨b5, 0, none⟩ = some (.int .i64 (e.1 : Int)) := cell_alloc r1 _
      have r2' : (w2.alloc (.cells #[.int .i64 (e.1 : Int)] 3)).cell? ⟨b5, 1, none⟩ = some (.int .i64 (e.2 : Int)) := cell_alloc r2 _
      go_region_law ((refine step_append_ow rfl (.tmp 25) (.tmp 28) 22 rfl 3 i0 (.int .i64 0) 1 8 Try.underlying22 hi hz0 hz1 hz2 rfl (by decide) rfl (hrow.fr (((Fr.refl No _).alloc _).drew) fun _ _ => id) rfl (Rd.one (World.cell?_alloc_new _ _ _ 0)) (by simp [Value.oneCell']) (by omega) (by simp only [maxLen]; omega) ?_; intro A5 c5 w5 hO5 hfr5 hA5; have s1 := hfr5.cell (cell_drew (cell_alloc r1 _)) n5; have s2 := hfr5.cell (cell_drew (cell_alloc r2 _)) n5; have s3 := hfr5.cell (cell_drew (cell_alloc r3 _)) nb; have s4 := hfr5.frz (cell_drew (cell_alloc r3 _)) (frz_drew (frz_alloc r3 z3 _)) nb))
      all_goals
        clear s1 s2 s3 s4 r1 r2 r3 r1' r2' r3' z3
        have hR := LRel.step HL.out HO2.out hfr2 HB.out m2 HS.out (by simpa [iv] using hO5) hfr5 hA5 hlt
        generalize w5.setCell ⟨b, e.2, none⟩ (.slice A5 (L + 1) c5) = w6 at hR ⊢
        have HRR := Lib.hid hR
        clear hR hO5 hfr5 hA5 hrow
        go_wp2_with fail
        go_roundg (es.length - (i + 1))
        case measure => rw [HGK.out]; omega
        case rel => exact HRR.out
    · have : i = es.length := by omega
      subst this
      rw [← rowsB_zero] at hO
      have HO := Lib.hid hO
      clear hO
      go_wp2_with fail
      go_loopg [34] es.length (LRel w b n (rowsB es) es.length)
      case atStart => exact ⟨0, _, _, rfl, by omega, by omega, HO.out, hfr⟩
      case round =>
        clear hfr HO
        obtain ⟨i, A, c, rfl, hi', hg, hO, hfr⟩ := hrel
        have HGK := Lib.hid hg
        clear hg
        by_cases hlt : i < es.length
        · obtain ⟨be, oe, rfl, hce⟩ := (HR.out.fr hfr fun _ _ => id).at_ (by rw [cellsOf_len]; omega)
          obtain ⟨k1, k2⟩ := cellsOf_get hlt
          have p1 := hce _ _ k1
          have p2 := hce _ _ k2
          obtain ⟨m1, m2⟩ := HG.out.mem _ (List.getElem_mem hlt)
          have m3 : es[i].1 < n := by omega
          have HS := Lib.hid (rowsB_succ hlt)
          have hrl := rowsB_len es i es[i].1
          clear hce k1 k2
          generalize es[i] = e at p1 p2 m1 m2 m3 HS hrl
          simp only [iv] at p1 p2
          rw [← Nat.add_assoc] at p2
          go_upto_region 10 with (fail)
          have n5 : ¬ InA (A e.1) wr.heap.size := fun h => by have := (hO.row _ m3).lt _ h; omega
          have f2 : Fr No wr (wr.alloc (.cells #[.int .i64 (e.1 : Int), .int .i64 (e.2 : Int)] 56)) := (Fr.refl _ _).alloc _
          have c5 := Cs.new wr 56 #[.int .i64 (e.1 : Int), .int .i64 (e.2 : Int)]
          have r1 := c5.cell 0
          have r2 := c5.cell 1
          generalize wr.alloc (.cells #[.int .i64 (e.1 : Int), .int .i64 (e.2 : Int)] 56) = w2 at f2 r1 r2 ⊢
          generalize wr.heap.size = b5 at r1 r2 n5 ⊢
          simp only [List.getElem?_toArray, List.getElem?_cons_zero, List.getElem?_cons_succ] at r1 r2
          have hO2 := hO.no f2
          have hfr2 := hfr.step f2
          clear c5 p1 p2 hO hfr f2
          have hrow := hO2.row e.1 m3
          obtain ⟨r3, z3⟩ := hO2.cellAt m3
          have nb : ¬ InA (A e.1) b := fun h => (hO2.far _ m3 _ h).1 rfl
          have HO2 := Lib.hid hO2
          have hn1 : (e.1 : Int) < (n : Int) := by omega
          clear hO2
          generalize hL : (rowsB es i e.1).length = L at hrow r3 hrl
          have HL := Lib.hid hL
          clear hL
          have r3' : (w2.alloc (.cells #[.int .i64 (e.2 : Int)] 3)).cell? ⟨b, e.1, none⟩ = some (.slice (A e.1) L (c e.1)) := cell_alloc r3 _
          have r1' : (w2.alloc (.cells #[.int .i64 (e.2 : Int)] 3)).cell? ⟨b5, 0, none⟩ = some (.int .i64 (e.1 : Int)) := cell_alloc r1 _
          have r2' : (w2.alloc (.cells #[.int .i64 (e.2 : Int)] 3)).cell? ⟨b5, 1, none⟩ = some (.int .i64 (e.2 : Int)) := cell_alloc r2 _
          go_region_law ((refine step_append_ow rfl (.tmp 45) (.tmp 48) 22 rfl 3 i0 (.int .i64 0) 1 8 Try.underlying22 hi hz0 hz1 hz2 rfl (by decide) rfl (hrow.fr (((Fr.refl No _).alloc _).drew) fun _ _ => id) rfl (Rd.one (World.cell?_alloc_new _ _ _ 0)) (by simp [Value.oneCell']) (by omega) (by simp only [maxLen]; omega) ?_; intro A5 c5 w5 hO5 hfr5 hA5; have s1 := hfr5.cell (cell_drew (cell_alloc r1 _)) n5; have s2 := hfr5.cell (cell_drew (cell_alloc r2 _)) n5; have s3 := hfr5.cell (cell_drew (cell_alloc r3 _)) nb; have s4 := hfr5.frz (cell_drew (cell_alloc r3 _)) (frz_drew (frz_alloc r3 z3 _)) nb))
          all_goals
            clear s1 s2 s3 s4 r1 r2 r3 r1' r2' r3' z3
            have hR := LRel.step HL.out HO2.out hfr2 HB.out m3 HS.out (by simpa [iv] using hO5) hfr5 hA5 hlt
            generalize w5.setCell ⟨b, e.1, none⟩ (.slice A5 (L + 1) c5) = w6 at hR ⊢
            have HRR := Lib.hid hR
            clear hR hO5 hfr5 hA5 hrow
            go_wp2_with fail
            go_roundg (es.length - (i + 1))
            case measure => rw [HGK.out]; omega
            case rel => exact HRR.out
        · have : i = es.length := by omega
          subst this
          rw [rowsB_all] at hO
          have HO := Lib.hid hO
          clear hO
          go_wp2_with fail
          go_ret
          exact ⟨b, A, c, rfl, HB.out, HO.out, hfr⟩
end Gar
