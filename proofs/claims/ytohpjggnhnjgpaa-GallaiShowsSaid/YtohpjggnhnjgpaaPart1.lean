/-
  PROVED: lemmas of the claim; no condition beyond what each one states.
  Words for memory: what a step leaves alone; a block of cells; slices that are read, and slices that are one's own; append.
  A forest in memory: its struct, its arrays, the vertices that wait.
  Words for memory, more of them: what stands behind an alloc, a draw.
  A region that draws its order and makes several slices: in whatever order they are made, each has a new block.
-/
import Derived.WalkKit
import Derived.Deep.Draws
import Derived.Deep.QuietTactic
import Derived.BigQuiet
import Derived.StillTailTactics
import Derived.Lib.Hide
import Derived.ArgAppend
import Derived.Deep.RegionWith
import Derived.Deep.RegionHeld3
import Derived.Deep.RegionLaw
import Derived.Deep.LoopGhost
import Derived.Deep.DeepCutAuto
import Derived.Deep.CutBlock
set_option linter.unusedVariables false
set_option linter.unusedSimpArgs false

namespace Gar
open Go Go.RowKit

/-- But for the blocks S, and for new ones, nothing has turned. -/
structure Fr (S : Nat → Prop) (w w' : World) : Prop where
  os : w'.os = w.os
  tape : w'.tape = w.tape
  output : w'.output = w.output
  size : w.heap.size ≤ w'.heap.size
  block : ∀ b, b < w.heap.size → ¬ S b → w'.heap[b]? = w.heap[b]?

def No : Nat → Prop := fun _ => False

theorem Fr.refl (S : Nat → Prop) (w : World) : Fr S w w := ⟨rfl, rfl, rfl, Nat.le_refl _, fun _ _ _ => rfl⟩
theorem Fr.mono {S T : Nat → Prop} {w w' : World} (h : Fr S w w') (hs : ∀ b, b < w.heap.size → S b → T b) : Fr T w w' :=
  ⟨h.os, h.tape, h.output, h.size, fun b hb ht => h.block b hb fun hs' => ht (hs b hb hs')⟩
theorem Fr.any {S : Nat → Prop} {w w' : World} (h : Fr No w w') : Fr S w w' := h.mono fun _ _ h => h.elim
/-- Two steps: what the second one turns is S, or new. -/
theorem Fr.trans {S T : Nat → Prop} {a b c : World} (h : Fr S a b) (k : Fr T b c) (ht : ∀ x, x < a.heap.size → T x → S x) : Fr S a c :=
  ⟨k.os.trans h.os, k.tape.trans h.tape, k.output.trans h.output, Nat.le_trans h.size k.size,
    fun x hx hn => (k.block x (Nat.lt_of_lt_of_le hx h.size) fun h' => hn (ht x hx h')).trans (h.block x hx hn)⟩
theorem Fr.step {S : Nat → Prop} {a b c : World} (h : Fr S a b) (k : Fr S b c) : Fr S a c := h.trans k fun _ _ h => h
theorem Fr.new {S T : Nat → Prop} {a b c : World} (h : Fr S a b) (k : Fr T b c) (ht : ∀ x, T x → a.heap.size ≤ x) : Fr S a c := h.trans k fun x hx h' => by have := ht x h'; omega
theorem Fr.drewN {S : Nat → Prop} {a b : World} (h : Fr S a b) (n : Nat) : Fr S a (b.drewN n) := ⟨h.os, h.tape, h.output, h.size, h.block⟩
theorem Fr.drew {S : Nat → Prop} {a b : World} (h : Fr S a b) : Fr S a b.drew := ⟨h.os, h.tape, h.output, h.size, h.block⟩
theorem Fr.alloc {S : Nat → Prop} {a b : World} (h : Fr S a b) (o : Obj) : Fr S a (b.alloc o) :=
  h.trans (T := No) ⟨rfl, rfl, rfl, by simp, fun k hk _ => Below.heap_alloc b o k hk⟩ fun _ _ h => h.elim
theorem Fr.setCell {S : Nat → Prop} {a b : World} (h : Fr S a b) (p : Addr) (v : Value) (hp : p.block < a.heap.size → S p.block) : Fr S a (b.setCell p v) :=
  h.trans (T := fun x => x = p.block) ⟨rfl, rfl, rfl, by simp [World.setCell], fun k _ hk => Below.heap_setCell _ _ _ _ hk⟩ fun x hx e => by subst e; exact hp hx
theorem Fr.below {w w' : World} (h : Fr No w w') : Below w.heap.size w w' := ⟨h.os, h.tape, h.output, h.size, fun k hk => h.block k hk id⟩
theorem Fr.of_below {w w' : World} (h : Below w.heap.size w w') : Fr No w w' := ⟨h.os, h.tape, h.output, h.size, fun k hk _ => h.block k hk⟩
theorem Fr.cell {S : Nat → Prop} {w w' : World} (h : Fr S w w') {a : Addr} {v : Value} (hc : w.cell? a = some v) (hn : ¬ S a.block) : w'.cell? a = some v :=
  (World.cell?_of_block (h.block a.block (World.block_lt_of_cell? w a hc) hn)).trans hc

/-- Block b is these cells, none of them frozen. -/
def Cs (w : World) (b : Nat) (c : Array Value) : Prop := ∃ e, w.heap[b]? = some (.cells c e (0, 0))

theorem Cs.lt {w : World} {b : Nat} {c : Array Value} (h : Cs w b c) : b < w.heap.size := by
  obtain ⟨e, h⟩ := h
  exact (Array.getElem?_eq_some_iff.1 h).1
theorem Cs.cell {w : World} {b : Nat} {c : Array Value} (h : Cs w b c) (i : Nat) : w.cell? ⟨b, i, none⟩ = c[i]? := by obtain ⟨e, h⟩ := h; exact cell_of_row w b i c e (0, 0) h
theorem Cs.frozen {w : World} {b : Nat} {c : Array Value} (h : Cs w b c) (i : Nat) : w.frozen? ⟨b, i, none⟩ = false := by obtain ⟨e, h⟩ := h; simp [World.frozen?, h]
theorem Cs.fr {S : Nat → Prop} {w w' : World} {b : Nat} {c : Array Value} (h : Cs w b c) (k : Fr S w w') (hb : ¬ S b) : Cs w' b c := by
  obtain ⟨e, h1⟩ := h
  exact ⟨e, (k.block b (Cs.lt ⟨e, h1⟩) hb).trans h1⟩
theorem Cs.set {w : World} {b : Nat} {c : Array Value} (h : Cs w b c) (i : Nat) (v : Value) : Cs (w.setCell ⟨b, i, none⟩ v) b (c.setIfInBounds i v) := by
  obtain ⟨e, h⟩ := h
  exact ⟨e, by simp [World.setCell, Array.getElem?_modify, h]⟩
theorem Cs.far {w : World} {b : Nat} {c : Array Value} (h : Cs w b c) (p : Addr) (v : Value) (hp : b ≠ p.block) : Cs (w.setCell p v) b c := by
  obtain ⟨e, h⟩ := h
  exact ⟨e, (Below.heap_setCell w p v b hp).trans h⟩
theorem Cs.alloc {w : World} {b : Nat} {c : Array Value} (h : Cs w b c) (o : Obj) : Cs (w.alloc o) b c := by
  obtain ⟨e, h1⟩ := h
  exact ⟨e, (Below.heap_alloc w o b (Cs.lt ⟨e, h1⟩)).trans h1⟩
theorem Cs.new (w : World) (e : TypeId) (c : Array Value) : Cs (w.alloc (.cells c e)) w.heap.size c := ⟨e, heap_alloc_new w _⟩

/-- The slice reads as these cells: size of them for each of its n. -/
structure Rd (w : World) (size : Nat) (A : Option Addr) (n : Nat) (xs : List Value) : Prop where
  len : xs.length = n * size
  at_ : 0 < xs.length → ∃ b o, A = some ⟨b, o, none⟩ ∧ ∀ i u, xs[i]? = some u → w.cell? ⟨b, o + i, none⟩ = some u

/-- The slice is one's own: what it is made of may be written, to its capacity. -/
structure Ow (w : World) (size : Nat) (A : Option Addr) (n c : Nat) (xs : List Value) : Prop where
  len : xs.length = n * size
  le : n ≤ c
  max : c ≤ maxLen
  nil : A = none → c = 0
  row : ∀ ad, A = some ad → ad.spot = none ∧ ∃ cs, Cs w ad.block cs ∧ ad.off + c * size ≤ cs.size ∧ ∀ i u, xs[i]? = some u → cs[ad.off + i]? = some u

/-- The block of a slice. -/
def InA (A : Option Addr) : Nat → Prop := fun b => ∃ ad, A = some ad ∧ ad.block = b

theorem Ow.rd {w : World} {size : Nat} {A : Option Addr} {n c : Nat} {xs : List Value} (h : Ow w size A n c xs) : Rd w size A n xs := by
  refine ⟨h.len, fun hp => ?_⟩
  cases A with
  | none => have := h.nil rfl; have h1 := h.len; have h2 := h.le; simp_all
  | some ad =>
    obtain ⟨h1, cs, h2, h3, h4⟩ := h.row ad rfl
    obtain ⟨b, o, s⟩ := ad
    simp only at h1; subst h1
    exact ⟨b, o, rfl, fun i u hu => by rw [h2.cell]; exact h4 i u hu⟩
theorem Ow.fr {S : Nat → Prop} {w w' : World} {size : Nat} {A : Option Addr} {n c : Nat} {xs : List Value} (h : Ow w size A n c xs) (k : Fr S w w') (hb : ∀ b, InA A b → ¬ S b) : Ow w' size A n c xs :=
  ⟨h.len, h.le, h.max, h.nil, fun ad e => by
    obtain ⟨h1, cs, h2, h3⟩ := h.row ad e
    exact ⟨h1, cs, h2.fr k (hb _ ⟨ad, e, rfl⟩), h3⟩⟩
theorem Ow.lt {w : World} {size : Nat} {A : Option Addr} {n c : Nat} {xs : List Value} (h : Ow w size A n c xs) : ∀ b, InA A b → b < w.heap.size := by
  rintro b ⟨ad, e, rfl⟩
  obtain ⟨_, cs, h2, _⟩ := h.row ad e
  exact h2.lt
theorem Ow.nil_ (w : World) (size : Nat) : Ow w size none 0 0 [] := ⟨by simp, Nat.le_refl _, Nat.zero_le _, fun _ => rfl, fun _ h => by cases h⟩
theorem Rd.fr {S : Nat → Prop} {w w' : World} {size : Nat} {A : Option Addr} {n : Nat} {xs : List Value} (h : Rd w size A n xs) (k : Fr S w w') (hb : ∀ b, InA A b → ¬ S b) : Rd w' size A n xs :=
  ⟨h.len, fun hp => by
    obtain ⟨b, o, rfl, h2⟩ := h.at_ hp
    exact ⟨b, o, rfl, fun i u hu => k.cell (h2 i u hu) (hb b ⟨_, rfl, rfl⟩)⟩⟩
theorem Rd.nil_ (w : World) (size : Nat) (A : Option Addr) : Rd w size A 0 [] := ⟨by simp, fun h => by simp at h⟩
theorem Rd.lt {w : World} {size : Nat} {A : Option Addr} {n : Nat} {xs : List Value} (h : Rd w size A n xs) (hp : 0 < xs.length) : ∀ b, InA A b → b < w.heap.size := by
  rintro b ⟨ad, e, rfl⟩
  obtain ⟨b, o, rfl, h2⟩ := h.at_ hp
  injection e with e; subst e
  exact World.block_lt_of_cell? w _ (h2 0 _ (List.getElem?_eq_getElem hp))

theorem Rd.one {w : World} {b : Nat} {u : Value} (h : w.cell? ⟨b, 0, none⟩ = some u) : Rd w 1 (some ⟨b, 0, none⟩) 1 [u] :=
  ⟨rfl, fun _ => ⟨b, 0, rfl, fun i u' hu => by
    cases i with
    | zero => simp only [List.getElem?_cons_zero, Option.some.injEq] at hu; subst hu; exact h
    | succ i => simp at hu⟩⟩

/-- A store into a slice of one's own. -/
theorem Ow.set {w : World} {size : Nat} {b o n c : Nat} {xs : List Value} (h : Ow w size (some ⟨b, o, none⟩) n c xs) (i : Nat) (v : Value) : Ow (w.setCell ⟨b, o + i, none⟩ v) size (some ⟨b, o, none⟩) n c (xs.set i v) := by
  refine ⟨by rw [List.length_set]; exact h.len, h.le, h.max, h.nil, fun ad e => ?_⟩
  obtain ⟨h1, cs, h2, h3, h4⟩ := h.row ad e
  injection e with e; subst e
  refine ⟨rfl, _, h2.set (o + i) v, by simpa using h3, fun j u hu => ?_⟩
  rw [List.getElem?_set] at hu
  by_cases e : i = j
  · subst e
    have hl : i < xs.length := by
      rcases Nat.lt_or_ge i xs.length with h | h
      · exact h
      · simp [h] at hu; omega
    have h5 := h4 i _ (List.getElem?_eq_getElem hl)
    have h6 : o + i < cs.size := (Array.getElem?_eq_some_iff.1 h5).1
    simp only [if_true, hl] at hu
    show (cs.setIfInBounds (o + i) v)[o + i]? = some u
    rw [Array.getElem?_setIfInBounds_self_of_lt h6]; exact hu
  · rw [if_neg e] at hu
    show (cs.setIfInBounds (o + i) v)[o + j]? = some u
    rw [Array.getElem?_setIfInBounds_ne (by omega)]; exact h4 j u hu
theorem Ow.cellAt {w : World} {size : Nat} {b o n c : Nat} {xs : List Value} (h : Ow w size (some ⟨b, o, none⟩) n c xs) {i : Nat} {u : Value} (hu : xs[i]? = some u) : w.cell? ⟨b, o + i, none⟩ = some u ∧ w.frozen? ⟨b, o + i, none⟩ = false := by
  obtain ⟨h1, cs, h2, h3, h4⟩ := h.row _ rfl
  exact ⟨by rw [h2.cell]; exact h4 i u hu, h2.frozen _⟩
theorem Ow.some {w : World} {size : Nat} {A : Option Addr} {n c : Nat} {xs : List Value} (h : Ow w size A n c xs) (hn : 0 < n) : ∃ b o, A = some ⟨b, o, none⟩ := by
  cases A with
  | none => have := h.nil rfl; have := h.le; omega
  | some ad =>
    obtain ⟨h1, _⟩ := h.row ad rfl
    obtain ⟨b, o, s⟩ := ad
    simp only at h1; subst h1
    exact ⟨b, o, rfl⟩
/-- What stands behind the first. -/
theorem Ow.tail {w : World} {b o n c : Nat} {x : Value} {xs : List Value} (h : Ow w 1 (.some ⟨b, o, none⟩) n c (x :: xs)) : Ow w 1 (if c = 1 then .some ⟨b, o, none⟩ else .some ⟨b, o + 1, none⟩) (n - 1) (c - 1) xs := by
  have hl := h.len
  have hle := h.le
  simp only [List.length_cons, Nat.mul_one] at hl
  obtain ⟨h1, cs, h2, h3, h4⟩ := h.row _ rfl
  refine ⟨by omega, by omega, by have := h.max; omega, by split <;> exact nofun, fun ad e => ?_⟩
  by_cases hc : c = 1
  · rw [if_pos hc] at e; injection e with e; subst e
    have : xs = [] := List.eq_nil_of_length_eq_zero (by omega)
    subst this
    exact ⟨rfl, cs, h2, by simp only [Nat.mul_one] at h3 ⊢; omega, fun i u hu => by simp at hu⟩
  · rw [if_neg hc] at e; injection e with e; subst e
    refine ⟨rfl, cs, h2, by simp only [Nat.mul_one] at h3 ⊢; omega, fun i u hu => ?_⟩
    have := h4 (i + 1) u (by simpa using hu)
    show cs[o + 1 + i]? = _
    rwa [show o + 1 + i = o + (i + 1) from by omega]

theorem heap_setCells (b : Nat) : ∀ (vs : List Value) (o : Nat) (w : World), (w.setCells b o vs).os = w.os ∧ (w.setCells b o vs).tape = w.tape ∧ (w.setCells b o vs).output = w.output ∧ (w.setCells b o vs).heap.size = w.heap.size ∧
    ∀ k, k ≠ b → (w.setCells b o vs).heap[k]? = w.heap[k]?
  | [], _, _ => ⟨rfl, rfl, rfl, rfl, fun _ _ => rfl⟩
  | v :: vs, o, w => by
    obtain ⟨h1, h2, h3, h4, h5⟩ := heap_setCells b vs (o + 1) (w.setCell ⟨b, o, none⟩ v)
    exact ⟨h1, h2, h3, h4.trans (by simp [World.setCell]), fun k hk => (h5 k hk).trans (Below.heap_setCell _ _ _ _ hk)⟩

theorem Cs.sets {b : Nat} : ∀ (vs : List Value) (o : Nat) (w : World) (c : Array Value), Cs w b c → o + vs.length ≤ c.size →
    ∃ c', Cs (w.setCells b o vs) b c' ∧ c'.size = c.size ∧ (∀ i, i < o → c'[i]? = c[i]?) ∧ ∀ i u, vs[i]? = some u → c'[o + i]? = some u
  | [], o, w, c, h, _ => ⟨c, h, rfl, fun _ _ => rfl, fun i u hu => by simp at hu⟩
  | v :: vs, o, w, c, h, hl => by
    simp only [List.length_cons] at hl
    obtain ⟨c', h1, h2, h3, h4⟩ := Cs.sets vs (o + 1) _ _ (h.set o v) (by simp; omega)
    refine ⟨c', h1, by simpa using h2, fun i hi => ?_, fun i u hu => ?_⟩
    · rw [h3 i (by omega), Array.getElem?_setIfInBounds_ne (by omega)]
    · cases i with
      | zero =>
        simp only [List.getElem?_cons_zero, Option.some.injEq] at hu; subst hu
        rw [Nat.add_zero, h3 o (by omega), Array.getElem?_setIfInBounds_self_of_lt (by omega)]
      | succ i =>
        simp only [List.getElem?_cons_succ] at hu
        have := h4 i u hu
        rwa [show o + 1 + i = o + (i + 1) from by omega] at this

section
variable {P : Program}

/-- append, to a slice of one's own: there was room, and it was written; or all lies in a new block. -/
theorem run_append_ow (w : World) (t ty e : TypeId) (i : TypeInfo) (z : Value) (size bytes : Nat) (ht : P.underlying t = some (.slice e)) (hi : P.info? e = some i) (hz : i.zero = some z)
    (hsize : i.size = size) (hby : i.bytes = bytes) (hzs : z.cells.size = size) (hsz : 0 < size)
    {A : Option Addr} {n c : Nat} {xs : List Value} (h : Ow w size A n c xs) {A' : Option Addr} {m c' : Nat} {news : List Value} (hx : Rd w size A' m news) (h1 : ∀ u ∈ news, u.oneCell' = true)
    (hb : (n + m) * bytes ≤ 140737488355328) (hm : n + m ≤ maxLen) :
    ∃ A2 c2 w', (Builtin.append_ #[t, t] ty #[.slice A n c, .slice A' m c']).run P w = .ok (.slice A2 (n + m) c2) w' ∧ Ow w' size A2 (n + m) c2 (xs ++ news) ∧ Fr (InA A) w w' ∧
      ∀ b, InA A2 b → InA A b ∨ w.heap.size ≤ b := by
  subst hsize; subst hby
  have hlen : (xs ++ news).length = (n + m) * i.size := by rw [List.length_append, h.len, hx.len, Nat.add_mul]
  have hm' : n + m ≤ 9223372036854775807 := by simp only [maxLen] at hm; omega
  rcases Nat.eq_zero_or_pos m with rfl | hmp
  · have hn : news = [] := List.eq_nil_of_length_eq_zero (by simpa using hx.len)
    subst hn
    refine ⟨A, c, w, ?_, by simpa using h, Fr.refl _ _, fun b hb => .inl hb⟩
    have hle := h.le
    cases A with
    | none =>
      have := h.nil rfl; subst this
      have : n = 0 := by omega
      subst this
      cases A' <;> simp [Builtin.append_, run_underlying ht, Go.sizeOf, typeInfo, hi, Builtin.lenOf, Builtin.firstCells, loadCells, loadCellsFrom]
    | some ad =>
      cases A' <;> simp [Builtin.append_, run_underlying ht, Go.sizeOf, typeInfo, hi, Builtin.lenOf, Builtin.firstCells, hle, storeCells, loadCells, loadCellsFrom]
  · obtain ⟨b', o', rfl, hc'⟩ := hx.at_ (by rw [hx.len]; exact Nat.mul_pos hmp hsz)
    have hnews : ∀ j u, news[j]? = some u → w.cell? ((⟨b', o', none⟩ : Addr).add j) = some u := fun j u hu => by
      rw [Addr.add_lit]; exact hc' j u hu
    -- what is new
    have grown : ∀ old, old < n + m →
        Ow (w.drew.alloc (.cells (xs.toArray ++ news.toArray ++ Builtin.zeroCells z.cells (grownCap w (n + m) old e - (n + m))) e)) i.size (some ⟨w.heap.size, 0, none⟩) (n + m) (grownCap w (n + m) old e) (xs ++ news) ∧
        Fr (InA A) w (w.drew.alloc (.cells (xs.toArray ++ news.toArray ++ Builtin.zeroCells z.cells (grownCap w (n + m) old e - (n + m))) e)) := by
      intro old ho
      have hge := grownCap_ge w (n + m) old e
      refine ⟨⟨hlen, hge, grownCap_le_maxLen w (n + m) old e hm, nofun, fun ad he => ?_⟩, (Fr.refl _ _).drew.alloc _⟩
      injection he with he; subst he
      refine ⟨rfl, _, ⟨e, heap_alloc_new w.drew _⟩, ?_, fun j u hu => ?_⟩
      · simp only [Nat.zero_add, Array.size_append, List.size_toArray, size_zeroCells, hzs, h.len, hx.len, ← Nat.add_mul]
        refine Nat.mul_le_mul_right _ ?_
        omega
      · have hj : j < (xs ++ news).length := (List.getElem?_eq_some_iff.1 hu).1
        show (xs.toArray ++ news.toArray ++ Builtin.zeroCells z.cells (grownCap w (n + m) old e - (n + m)))[0 + j]? = some u
        rw [Nat.zero_add, Array.getElem?_append_left (by simpa using hj)]
        simpa using hu
    have nw : ∀ (cc : Nat) b, InA (some (⟨w.heap.size, 0, none⟩ : Addr)) b → InA A b ∨ w.heap.size ≤ b := by
      rintro _ b ⟨ad, he, rfl⟩
      injection he with he; subst he; exact .inr (Nat.le_refl _)
    cases A with
    | none =>
      have hc0 := h.nil rfl; subst hc0
      have hn0 : n = 0 := by have := h.le; omega
      subst hn0
      have hxs : xs = [] := List.eq_nil_of_length_eq_zero (by simpa using h.len)
      subst hxs
      have hr := run_append_nil (P := P) (w := w) t ty e i z ht hi hz ⟨b', o', none⟩ m c' news hx.len hnews hmp (by omega) (by simp only [Nat.zero_add] at hb; omega)
      obtain ⟨g1, g2⟩ := grown 0 (by omega)
      simp only [Nat.zero_add, List.nil_append, Array.empty_append] at g1 g2 ⊢
      exact ⟨_, _, _, hr, g1, g2, nw 0⟩
    | some ad =>
      obtain ⟨hs, cs, k1, k2, k3⟩ := h.row ad rfl
      obtain ⟨b, o, s⟩ := ad
      simp only at hs k1 k2 k3; subst hs
      by_cases hroom : n + m ≤ c
      · have hfit : o + n * i.size + news.length ≤ cs.size := by
          rw [hx.len, Nat.add_assoc, ← Nat.add_mul]; exact Nat.le_trans (Nat.add_le_add_left (Nat.mul_le_mul_right _ hroom) _) k2
        have hr := run_append_room_cells (P := P) w t ty e i ht hi b o n c ⟨b', o', none⟩ m c' news hx.len hnews h1 hroom
          (fun j hj => by rw [k1.cell, Array.getElem?_eq_getElem (by omega)]; rfl) (fun j hj => k1.frozen _)
        obtain ⟨c2, q1, q2, q3, q4⟩ := Cs.sets news (o + n * i.size) w cs k1 hfit
        obtain ⟨p1, p2, p3, p4, p5⟩ := heap_setCells b news (o + n * i.size) w
        refine ⟨some ⟨b, o, none⟩, c, _, hr, ⟨hlen, hroom, h.max, nofun, fun ad he => ?_⟩, ⟨p1, p2, p3, by rw [p4]; exact Nat.le_refl _, fun k _ hk => p5 k fun e => hk ⟨_, rfl, e.symm⟩⟩, fun b hb => .inl hb⟩
        injection he with he; subst he
        refine ⟨rfl, c2, q1, by rw [q2]; exact k2, fun j u hu => ?_⟩
        by_cases hj : j < xs.length
        · rw [List.getElem?_append_left hj] at hu
          have hjj : j < n * i.size := by rw [← h.len]; exact hj
          show c2[o + j]? = some u
          rw [q3 _ (by omega)]; exact k3 j u hu
        · rw [List.getElem?_append_right (by omega)] at hu
          have := q4 _ u hu
          rw [h.len] at this hj
          show c2[o + j]? = some u
          rwa [show o + n * i.size + (j - n * i.size) = o + j from by omega] at this
      · have hr := run_append_grow (P := P) (w := w) t ty e i z ht hi hz ⟨b, o, none⟩ n c xs h.len (fun j u hu => by rw [Addr.add_lit, k1.cell]; exact k3 j u hu) ⟨b', o', none⟩ m c' news hx.len hnews (by omega) (by omega)
          (growslice_fits (by omega) hb)
        obtain ⟨g1, g2⟩ := grown c (by omega)
        exact ⟨_, _, _, hr, g1, g2, nw 0⟩

theorem wpList_append_ow {w : World} {ops : Array Oper} {rest : List Oper} {o : Oper} {a : Act} {Q : Exit → Act → World → Prop} (hgd : o.guard = none) (s x : Operand) (t : TypeId)
    (ho : o.op = .call { callee := .builtin .append, args := #[s, x], argTypes := #[t, t] })
    (e : TypeId) (i : TypeInfo) (z : Value) (size bytes : Nat) (ht : P.underlying t = some (.slice e)) (hi : P.info? e = some i) (hz : i.zero = some z)
    (hsize : i.size = size) (hby : i.bytes = bytes) (hzs : z.cells.size = size) (hsz : 0 < size)
    {A : Option Addr} {n c : Nat} {xs : List Value} (hs : a.eval s = .slice A n c) (h : Ow w size A n c xs) {A' : Option Addr} {m c' : Nat} {news : List Value} (hxv : a.eval x = .slice A' m c') (hx : Rd w size A' m news)
    (h1 : ∀ u ∈ news, u.oneCell' = true) (hb : (n + m) * bytes ≤ 140737488355328) (hm : n + m ≤ maxLen)
    (hK : ∀ A2 c2 w', Ow w' size A2 (n + m) c2 (xs ++ news) → Fr (InA A) w w' → (∀ b, InA A2 b → InA A b ∨ w.heap.size ≤ b) → wpList P ops Q rest (a.put o.dst (.slice A2 (n + m) c2)) w') : wpList P ops Q (o :: rest) a w :=
  wpList_plain hgd fun K hK' => by
    obtain ⟨A2, c2, w', hr, h2, h3, h4⟩ := run_append_ow (P := P) w t o.type e i z size bytes ht hi hz hsize hby hzs hsz h hx (c' := c') h1 hb hm
    unfold Oper.wp execOp
    simp only [ho, resolve, invoke, builtin, Sem.run_bind, Sem.run_pure, Result.andThen_ok, List.map_toArray, List.map_cons, List.map_nil, hs, hxv, hr]
    exact hK' _ _ (hK A2 c2 w' h2 h3 h4)
theorem wp_append_ow {w : World} {o : Oper} {a : Act} {K : Act → World → Prop} {Q : Exit → Act → World → Prop} (s x : Operand) (t : TypeId)
    (ho : o.op = .call { callee := .builtin .append, args := #[s, x], argTypes := #[t, t] })
    (e : TypeId) (i : TypeInfo) (z : Value) (size bytes : Nat) (ht : P.underlying t = some (.slice e)) (hi : P.info? e = some i) (hz : i.zero = some z)
    (hsize : i.size = size) (hby : i.bytes = bytes) (hzs : z.cells.size = size) (hsz : 0 < size)
    {A : Option Addr} {n c : Nat} {xs : List Value} (hs : a.eval s = .slice A n c) (h : Ow w size A n c xs) {A' : Option Addr} {m c' : Nat} {news : List Value} (hxv : a.eval x = .slice A' m c') (hx : Rd w size A' m news)
    (h1 : ∀ u ∈ news, u.oneCell' = true) (hb : (n + m) * bytes ≤ 140737488355328) (hm : n + m ≤ maxLen)
    (hK : ∀ A2 c2 w', Ow w' size A2 (n + m) c2 (xs ++ news) → Fr (InA A) w w' → (∀ b, InA A2 b → InA A b ∨ w.heap.size ≤ b) → K (a.put o.dst (.slice A2 (n + m) c2)) w') : o.wp P a w K Q := by
  obtain ⟨A2, c2, w', hr, h2, h3, h4⟩ := run_append_ow (P := P) w t o.type e i z size bytes ht hi hz hsize hby hzs hsz h hx (c' := c') h1 hb hm
  unfold Oper.wp execOp
  simp only [ho, resolve, invoke, builtin, Sem.run_bind, Sem.run_pure, Result.andThen_ok, List.map_toArray, List.map_cons, List.map_nil, hs, hxv, hr]
  exact hK A2 c2 w' h2 h3 h4

/-- The same at a step of a region that draws its order. -/
theorem step_append_ow {w : World} {ops : Array Oper} {o : Oper} {a : Act} {K : Act → World → Prop} {Q : Exit → Act → World → Prop} {E : Prop} (hgd : o.guard = none) (s x : Operand) (t : TypeId)
    (ho : o.op = .call { callee := .builtin .append, args := #[s, x], argTypes := #[t, t] })
    (e : TypeId) (i : TypeInfo) (z : Value) (size bytes : Nat) (ht : P.underlying t = some (.slice e)) (hi : P.info? e = some i) (hz : i.zero = some z)
    (hsize : i.size = size) (hby : i.bytes = bytes) (hzs : z.cells.size = size) (hsz : 0 < size)
    {A : Option Addr} {n c : Nat} {xs : List Value} (hs : a.eval s = .slice A n c) (h : Ow w size A n c xs) {A' : Option Addr} {m c' : Nat} {news : List Value} (hxv : a.eval x = .slice A' m c') (hx : Rd w size A' m news)
    (h1 : ∀ u ∈ news, u.oneCell' = true) (hb : (n + m) * bytes ≤ 140737488355328) (hm : n + m ≤ maxLen)
    (hK : ∀ A2 c2 w', Ow w' size A2 (n + m) c2 (xs ++ news) → Fr (InA A) w w' → (∀ b, InA A2 b → InA A b ∨ w.heap.size ≤ b) → K (a.put o.dst (.slice A2 (n + m) c2)) w') :
    if Region.wanted o (yielded ops a.tmps) = true then Oper.wp P o a w K Q else E := by
  have hw : Region.wanted o (yielded ops a.tmps) = true := by simp [Region.wanted, hgd]
  rw [if_pos hw]
  exact wp_append_ow s x t ho e i z size bytes ht hi hz hsize hby hzs hsz hs h hxv hx h1 hb hm hK
end
end Gar

namespace Gar
open Go Go.RowKit

/-- Block b: n cells, f of each place. -/
def Arr (w : World) (b n : Nat) (f : Nat → Value) : Prop := ∃ c, Cs w b c ∧ c.size = n ∧ ∀ i, i < n → c[i]? = some (f i)

section
variable {w w' : World} {b n : Nat} {f : Nat → Value}
theorem Arr.cell (h : Arr w b n f) {i : Nat} (hi : i < n) : w.cell? ⟨b, i, none⟩ = some (f i) := by obtain ⟨c, h1, h2, h3⟩ := h; rw [h1.cell]; exact h3 i hi
theorem Arr.frozen (h : Arr w b n f) (i : Nat) : w.frozen? ⟨b, i, none⟩ = false := by obtain ⟨c, h1, _⟩ := h; exact h1.frozen i
theorem Arr.lt (h : Arr w b n f) : b < w.heap.size := by obtain ⟨c, h1, _⟩ := h; exact h1.lt
theorem Arr.fr {S : Nat → Prop} (h : Arr w b n f) (k : Fr S w w') (hb : ¬ S b) : Arr w' b n f := by obtain ⟨c, h1, h2⟩ := h; exact ⟨c, h1.fr k hb, h2⟩
theorem Arr.far (h : Arr w b n f) (p : Addr) (v : Value) (hp : b ≠ p.block) : Arr (w.setCell p v) b n f := by obtain ⟨c, h1, h2⟩ := h; exact ⟨c, h1.far p v hp, h2⟩
theorem Arr.alloc (h : Arr w b n f) (o : Obj) : Arr (w.alloc o) b n f := by obtain ⟨c, h1, h2⟩ := h; exact ⟨c, h1.alloc o, h2⟩
theorem Arr.set (h : Arr w b n f) (i : Nat) (v : Value) : Arr (w.setCell ⟨b, i, none⟩ v) b n (fun j => if j = i then v else f j) := by
  obtain ⟨c, h1, h2, h3⟩ := h
  refine ⟨_, h1.set i v, by simp [h2], fun j hj => ?_⟩
  by_cases e : j = i
  · subst e; rw [Array.getElem?_setIfInBounds_self_of_lt (by omega)]; simp
  · rw [Array.getElem?_setIfInBounds_ne (Ne.symm e), h3 j hj]; simp [e]
theorem Arr.congr {g : Nat → Value} (h : Arr w b n f) (hg : ∀ i, i < n → f i = g i) : Arr w b n g := by
  obtain ⟨c, h1, h2, h3⟩ := h
  exact ⟨c, h1, h2, fun i hi => by rw [h3 i hi, hg i hi]⟩
theorem Arr.drewN (h : Arr w b n f) (k : Nat) : Arr (w.drewN k) b n f := h
theorem Arr.drew (h : Arr w b n f) : Arr w.drew b n f := h
end

def iv (x : Nat) : Value := .int .i64 (x : Int)
def ev : Option Nat → Value
  | none => .int .i64 (-1)
  | some x => .int .i64 (x : Int)

structure FRaw (w : World) (own : Nat → Prop) (K : Nat → Nat) (n : Nat) (Am : Option Addr) (cm : Nat) (mv : Nat → Value) (R : Nat → Nat → Value) (tn lk : Int) (Aw : Option Addr) (nw cw : Nat) (wt : List Value) : Prop where
  owns : ∀ i, 2 ≤ i → i ≤ 13 → own (K i)
  dis : ∀ i j, 2 ≤ i → i ≤ 13 → 2 ≤ j → j ≤ 13 → K i = K j → i = j
  hdr : ∃ c, Cs w (K 13) c ∧ c.size = 16 ∧ c[1]? = some (.slice Am n cm) ∧ (∀ i, 2 ≤ i → i ≤ 12 → c[i]? = some (.slice (some ⟨K i, 0, none⟩) n n)) ∧ c[13]? = some (.int .i64 tn) ∧
      c[14]? = some (.slice Aw nw cw) ∧ c[15]? = some (.int .i64 lk)
  arr : ∀ i, 2 ≤ i → i ≤ 12 → Arr w (K i) (if i = 8 then n * 2 else n) (R i)
  wait : Ow w 1 Aw nw cw wt
  waitOwn : ∀ b, InA Aw b → own b
  waitDis : ∀ b i, InA Aw b → 2 ≤ i → i ≤ 13 → b ≠ K i
  mate : 0 < n → ∃ b, Am = some ⟨b, 0, none⟩ ∧ ¬ own b ∧ ∀ v, v < n → w.cell? ⟨b, v, none⟩ = some (mv v)

/-- What the forest owns turned, and what it owns now is what it owned, or new. -/
structure Stp (own : Nat → Prop) (w : World) (own' : Nat → Prop) (w' : World) : Prop where
  fr : Fr own w w'
  ex : ∀ b, own' b → own b ∨ w.heap.size ≤ b

theorem Stp.refl (own : Nat → Prop) (w : World) : Stp own w own w := ⟨Fr.refl _ _, fun _ h => .inl h⟩
theorem Stp.trans {o1 o2 o3 : Nat → Prop} {a b c : World} (h : Stp o1 a o2 b) (k : Stp o2 b o3 c) : Stp o1 a o3 c :=
  ⟨h.fr.trans k.fr fun x hx h2 => (h.ex x h2).resolve_right (by omega), fun x hx => by
    rcases k.ex x hx with h' | h'
    · exact h.ex x h'
    · exact .inr (Nat.le_trans h.fr.size h')⟩
theorem Stp.drewN {o1 o2 : Nat → Prop} {a b : World} (h : Stp o1 a o2 b) (n : Nat) : Stp o1 a o2 (b.drewN n) := ⟨h.fr.drewN n, h.ex⟩
theorem Stp.set {o1 o2 : Nat → Prop} {a b : World} (h : Stp o1 a o2 b) (p : Addr) (v : Value) (hp : o2 p.block) : Stp o1 a o2 (b.setCell p v) :=
  ⟨h.fr.setCell p v fun hlt => (h.ex _ hp).resolve_right (by omega), h.ex⟩
theorem Stp.of_fr {o : Nat → Prop} {a b : World} (h : Fr No a b) : Stp o a o b := ⟨h.any, fun _ h => .inl h⟩

section
variable {w w' : World} {own : Nat → Prop} {K : Nat → Nat} {n : Nat} {Am : Option Addr} {cm : Nat} {mv : Nat → Value} {R : Nat → Nat → Value} {tn lk : Int} {Aw : Option Addr} {nw cw : Nat} {wt : List Value}

theorem FRaw.ne (h : FRaw w own K n Am cm mv R tn lk Aw nw cw wt) (i j : Nat) (hi : 2 ≤ i ∧ i ≤ 13) (hj : 2 ≤ j ∧ j ≤ 13) (hij : i ≠ j) : K i ≠ K j :=
  fun e => hij (h.dis i j hi.1 hi.2 hj.1 hj.2 e)
theorem FRaw.hd (h : FRaw w own K n Am cm mv R tn lk Aw nw cw wt) (i : Nat) (hi : 2 ≤ i ∧ i ≤ 12) : w.cell? ⟨K 13, i, none⟩ = some (.slice (some ⟨K i, 0, none⟩) n n) := by
  obtain ⟨c, h1, h2, h3, h4, h5⟩ := h.hdr; rw [h1.cell]; exact h4 i hi.1 hi.2
theorem FRaw.hd1 (h : FRaw w own K n Am cm mv R tn lk Aw nw cw wt) : w.cell? ⟨K 13, 1, none⟩ = some (.slice Am n cm) := by
  obtain ⟨c, h1, h2, h3, h4, h5⟩ := h.hdr; rw [h1.cell]; exact h3
theorem FRaw.hd13 (h : FRaw w own K n Am cm mv R tn lk Aw nw cw wt) : w.cell? ⟨K 13, 13, none⟩ = some (.int .i64 tn) := by
  obtain ⟨c, h1, h2, h3, h4, h5, h6, h7⟩ := h.hdr; rw [h1.cell]; exact h5
theorem FRaw.hd14 (h : FRaw w own K n Am cm mv R tn lk Aw nw cw wt) : w.cell? ⟨K 13, 14, none⟩ = some (.slice Aw nw cw) := by
  obtain ⟨c, h1, h2, h3, h4, h5, h6, h7⟩ := h.hdr; rw [h1.cell]; exact h6
theorem FRaw.hd15 (h : FRaw w own K n Am cm mv R tn lk Aw nw cw wt) : w.cell? ⟨K 13, 15, none⟩ = some (.int .i64 lk) := by
  obtain ⟨c, h1, h2, h3, h4, h5, h6, h7⟩ := h.hdr; rw [h1.cell]; exact h7
theorem FRaw.hz (h : FRaw w own K n Am cm mv R tn lk Aw nw cw wt) (i : Nat) : w.frozen? ⟨K 13, i, none⟩ = false := by
  obtain ⟨c, h1, _⟩ := h.hdr; exact h1.frozen i
theorem FRaw.get (h : FRaw w own K n Am cm mv R tn lk Aw nw cw wt) (i : Nat) (hi : 2 ≤ i ∧ i ≤ 12) (h8 : i ≠ 8) {v : Nat} (hv : v < n) : w.cell? ⟨K i, v, none⟩ = some (R i v) :=
  (h.arr i hi.1 hi.2).cell (by rw [if_neg h8]; exact hv)
theorem FRaw.get8 (h : FRaw w own K n Am cm mv R tn lk Aw nw cw wt) {v : Nat} (hv : v < n * 2) : w.cell? ⟨K 8, v, none⟩ = some (R 8 v) :=
  (h.arr 8 (by omega) (by omega)).cell hv
theorem FRaw.fz (h : FRaw w own K n Am cm mv R tn lk Aw nw cw wt) (i : Nat) (hi : 2 ≤ i ∧ i ≤ 12) (v : Nat) : w.frozen? ⟨K i, v, none⟩ = false := (h.arr i hi.1 hi.2).frozen v
theorem FRaw.getM (h : FRaw w own K n Am cm mv R tn lk Aw nw cw wt) {v : Nat} (hv : v < n) : ∃ b, Am = some ⟨b, 0, none⟩ ∧ ¬ own b ∧ w.cell? ⟨b, v, none⟩ = some (mv v) ∧ (∀ u, u < n → w.cell? ⟨b, u, none⟩ = some (mv u)) := by
  obtain ⟨b, h1, h2, h3⟩ := h.mate (by omega)
  exact ⟨b, h1, h2, h3 v hv, h3⟩

theorem FRaw.drewN (h : FRaw w own K n Am cm mv R tn lk Aw nw cw wt) (k : Nat) : FRaw (w.drewN k) own K n Am cm mv R tn lk Aw nw cw wt :=
  ⟨h.owns, h.dis, h.hdr, h.arr, h.wait.fr (S := No) ((Fr.refl _ _).drewN k) fun _ _ => id, h.waitOwn, h.waitDis, h.mate⟩
theorem FRaw.alloc (h : FRaw w own K n Am cm mv R tn lk Aw nw cw wt) (o : Obj) : FRaw (w.alloc o) own K n Am cm mv R tn lk Aw nw cw wt := by
  have hf : Fr No w (w.alloc o) := (Fr.refl _ _).alloc o
  refine ⟨h.owns, h.dis, ?_, fun i h1 h2 => (h.arr i h1 h2).alloc o, h.wait.fr hf fun _ _ => id, h.waitOwn, h.waitDis, fun hn => ?_⟩
  · obtain ⟨c, h1, h2⟩ := h.hdr; exact ⟨c, h1.alloc o, h2⟩
  · obtain ⟨b, h1, h2, h3⟩ := h.mate hn; exact ⟨b, h1, h2, fun v hv => hf.cell (h3 v hv) id⟩
/-- Whatever leaves what is the forest's alone. -/
theorem FRaw.fr {S : Nat → Prop} (h : FRaw w own K n Am cm mv R tn lk Aw nw cw wt) (k : Fr S w w') (hS : ∀ b, S b → ¬ own b) (hM : ∀ b, InA Am b → ¬ S b) : FRaw w' own K n Am cm mv R tn lk Aw nw cw wt := by
  refine ⟨h.owns, h.dis, ?_, fun i h1 h2 => (h.arr i h1 h2).fr k fun hs => hS _ hs (h.owns i h1 (by omega)), h.wait.fr k fun b hb hs => hS _ hs (h.waitOwn b hb), h.waitOwn, h.waitDis, fun hn => ?_⟩
  · obtain ⟨c, h1, h2⟩ := h.hdr; exact ⟨c, h1.fr k fun hs => hS _ hs (h.owns 13 (by omega) (by omega)), h2⟩
  · obtain ⟨b, h1, h2, h3⟩ := h.mate hn; exact ⟨b, h1, h2, fun v hv => k.cell (h3 v hv) (hM b ⟨_, h1, rfl⟩)⟩

/-- A store into one of the arrays. -/
theorem FRaw.set (h : FRaw w own K n Am cm mv R tn lk Aw nw cw wt) (i : Nat) (hi : 2 ≤ i ∧ i ≤ 12) (v : Nat) (x : Value) :
    FRaw (w.setCell ⟨K i, v, none⟩ x) own K n Am cm mv (fun j u => if j = i ∧ u = v then x else R j u) tn lk Aw nw cw wt := by
  have hi' : own (K i) := h.owns i hi.1 (by omega)
  have hf : Fr (fun b => b = K i) w (w.setCell ⟨K i, v, none⟩ x) := (Fr.refl _ _).setCell _ _ fun _ => rfl
  refine ⟨h.owns, h.dis, ?_, fun j h1 h2 => ?_, h.wait.fr hf fun b hb e => h.waitDis b i hb hi.1 (by omega) e, h.waitOwn, h.waitDis, fun hn => ?_⟩
  · obtain ⟨c, h1, h2⟩ := h.hdr; exact ⟨c, h1.far _ _ (h.ne 13 i (by omega) (by omega) (by omega)), h2⟩
  · by_cases e : j = i
    · subst e; exact ((h.arr j h1 h2).set v x).congr fun u _ => by simp
    · exact ((h.arr j h1 h2).far _ _ (h.ne j i (by omega) (by omega) e)).congr fun u _ => by simp [e]
  · obtain ⟨b, h1, h2, h3⟩ := h.mate hn; exact ⟨b, h1, h2, fun u hu => hf.cell (h3 u hu) fun e => h2 (by simp only at e; rw [e]; exact hi')⟩

/-- A store into the struct. -/
theorem FRaw.setTn (h : FRaw w own K n Am cm mv R tn lk Aw nw cw wt) (x : Int) : FRaw (w.setCell ⟨K 13, 13, none⟩ (.int .i64 x)) own K n Am cm mv R x lk Aw nw cw wt := by
  have hf : Fr (fun b => b = K 13) w (w.setCell ⟨K 13, 13, none⟩ (.int .i64 x)) := (Fr.refl _ _).setCell _ _ fun _ => rfl
  refine ⟨h.owns, h.dis, ?_, fun j h1 h2 => (h.arr j h1 h2).far _ _ (h.ne j 13 (by omega) (by omega) (by omega)), h.wait.fr hf fun b hb e => h.waitDis b 13 hb (by omega) (by omega) e, h.waitOwn, h.waitDis, fun hn => ?_⟩
  · obtain ⟨c, h1, h2, h3, h4, h5, h6, h7⟩ := h.hdr
    refine ⟨_, h1.set _ _, by simpa using h2, ?_, fun i i1 i2 => ?_, ?_, ?_, ?_⟩
    · rw [Array.getElem?_setIfInBounds_ne (by omega)]; exact h3
    · rw [Array.getElem?_setIfInBounds_ne (by omega)]; exact h4 i i1 i2
    · rw [Array.getElem?_setIfInBounds_self_of_lt (by omega)]
    · rw [Array.getElem?_setIfInBounds_ne (by omega)]; exact h6
    · rw [Array.getElem?_setIfInBounds_ne (by omega)]; exact h7
  · obtain ⟨b, h1, h2, h3⟩ := h.mate hn; exact ⟨b, h1, h2, fun u hu => hf.cell (h3 u hu) fun e => h2 (by simp only at e; rw [e]; exact h.owns 13 (by omega) (by omega))⟩
theorem FRaw.setLk (h : FRaw w own K n Am cm mv R tn lk Aw nw cw wt) (x : Int) : FRaw (w.setCell ⟨K 13, 15, none⟩ (.int .i64 x)) own K n Am cm mv R tn x Aw nw cw wt := by
  have hf : Fr (fun b => b = K 13) w (w.setCell ⟨K 13, 15, none⟩ (.int .i64 x)) := (Fr.refl _ _).setCell _ _ fun _ => rfl
  refine ⟨h.owns, h.dis, ?_, fun j h1 h2 => (h.arr j h1 h2).far _ _ (h.ne j 13 (by omega) (by omega) (by omega)), h.wait.fr hf fun b hb e => h.waitDis b 13 hb (by omega) (by omega) e, h.waitOwn, h.waitDis, fun hn => ?_⟩
  · obtain ⟨c, h1, h2, h3, h4, h5, h6, h7⟩ := h.hdr
    refine ⟨_, h1.set _ _, by simpa using h2, ?_, fun i i1 i2 => ?_, ?_, ?_, ?_⟩
    · rw [Array.getElem?_setIfInBounds_ne (by omega)]; exact h3
    · rw [Array.getElem?_setIfInBounds_ne (by omega)]; exact h4 i i1 i2
    · rw [Array.getElem?_setIfInBounds_ne (by omega)]; exact h5
    · rw [Array.getElem?_setIfInBounds_ne (by omega)]; exact h6
    · rw [Array.getElem?_setIfInBounds_self_of_lt (by omega)]
  · obtain ⟨b, h1, h2, h3⟩ := h.mate hn; exact ⟨b, h1, h2, fun u hu => hf.cell (h3 u hu) fun e => h2 (by simp only at e; rw [e]; exact h.owns 13 (by omega) (by omega))⟩
/-- The slice of those that wait turns to another one, in the same block, or in a new one. -/
theorem FRaw.setWt {S : Nat → Prop} (h : FRaw w own K n Am cm mv R tn lk Aw nw cw wt) {A2 : Option Addr} {n2 c2 : Nat} {wt2 : List Value} (k : Fr (InA Aw) w w') (hw : Ow w' 1 A2 n2 c2 wt2) (hA : ∀ b, InA A2 b → InA Aw b ∨ w.heap.size ≤ b) :
    FRaw (w'.setCell ⟨K 13, 14, none⟩ (.slice A2 n2 c2)) (fun b => own b ∨ InA A2 b) K n Am cm mv R tn lk A2 n2 c2 wt2 := by
  have hf : Fr (fun b => b = K 13) w' (w'.setCell ⟨K 13, 14, none⟩ (.slice A2 n2 c2)) := (Fr.refl _ _).setCell _ _ fun _ => rfl
  have hlt : ∀ i, 2 ≤ i → i ≤ 12 → K i < w.heap.size := fun i h1 h2 => (h.arr i h1 h2).lt
  have hlt13 : K 13 < w.heap.size := by obtain ⟨c, h1, _⟩ := h.hdr; exact h1.lt
  have hnd : ∀ b i, InA A2 b → 2 ≤ i → i ≤ 13 → b ≠ K i := by
    intro b i hb h1 h2 e
    rcases hA b hb with h' | h'
    · exact h.waitDis b i h' h1 h2 e
    · rcases Nat.lt_or_ge 12 i with h3 | h3
      · have : i = 13 := by omega
        subst this; omega
      · have := hlt i h1 h3; omega
  have hnot : ∀ i, 2 ≤ i → i ≤ 13 → ¬ InA Aw (K i) := fun i h1 h2 hb => h.waitDis _ i hb h1 h2 rfl
  refine ⟨fun i h1 h2 => .inl (h.owns i h1 h2), h.dis, ?_, fun j h1 h2 => ((h.arr j h1 h2).fr k (hnot j h1 (by omega))).far _ _ (h.ne j 13 (by omega) (by omega) (by omega)),
    hw.fr hf fun b hb e => hnd b 13 hb (by omega) (by omega) e, fun b hb => .inr hb, hnd, fun hn => ?_⟩
  · obtain ⟨c, h1, h2, h3, h4, h5, h6, h7⟩ := h.hdr
    refine ⟨_, (h1.fr k (hnot 13 (by omega) (by omega))).set _ _, by simpa using h2, ?_, fun i i1 i2 => ?_, ?_, ?_, ?_⟩
    · rw [Array.getElem?_setIfInBounds_ne (by omega)]; exact h3
    · rw [Array.getElem?_setIfInBounds_ne (by omega)]; exact h4 i i1 i2
    · rw [Array.getElem?_setIfInBounds_ne (by omega)]; exact h5
    · rw [Array.getElem?_setIfInBounds_self_of_lt (by omega)]
    · rw [Array.getElem?_setIfInBounds_ne (by omega)]; exact h7
  · obtain ⟨b, h1, h2, h3⟩ := h.mate hn
    have hbl : b < w.heap.size := World.block_lt_of_cell? w _ (h3 0 hn)
    refine ⟨b, h1, ?_, fun u hu => hf.cell (k.cell (h3 u hu) fun hb => h2 (h.waitOwn b hb)) fun e => h2 (by simp only at e; rw [e]; exact h.owns 13 (by omega) (by omega))⟩
    rintro (h' | h')
    · exact h2 h'
    · rcases hA b h' with h'' | h''
      · exact h2 (h.waitOwn b h'')
      · omega
end

/-- What is known of the forest, but for what plays no part. -/
structure FS where
  label : Nat → Nat
  outer : Nat → Bool
  pred : Nat → Nat
  root : Nat → Option Nat
  bridge : Nat → Nat × Nat
  gone : Nat → Bool
  up : Nat → Nat
  base : Nat → Nat
  mark : Nat → Int
  turn : Int
  wait : List Nat

structure Ab (n : Nat) (R : Nat → Nat → Value) (S : FS) : Prop where
  label : ∀ v, v < n → R 2 v = iv (S.label v)
  outer : ∀ v, v < n → R 3 v = .bool (S.outer v)
  even : ∀ v, v < n → ∃ x, R 4 v = .int .i64 x
  odd : ∀ v, v < n → ∃ x, R 5 v = .int .i64 x
  pred : ∀ v, v < n → R 6 v = iv (S.pred v)
  root : ∀ v, v < n → R 7 v = ev (S.root v)
  br1 : ∀ v, v < n → R 8 (v * 2) = iv (S.bridge v).1
  br2 : ∀ v, v < n → R 8 (v * 2 + 1) = iv (S.bridge v).2
  gone : ∀ v, v < n → R 9 v = .bool (S.gone v)
  up : ∀ v, v < n → R 10 v = iv (S.up v)
  base : ∀ v, v < n → R 11 v = iv (S.base v)
  mark : ∀ v, v < n → R 12 v = .int .i64 (S.mark v)

/-- THE FOREST IN MEMORY. -/
def FM (w : World) (own : Nat → Prop) (K : Nat → Nat) (n : Nat) (mate : Nat → Option Nat) (S : FS) : Prop :=
  ∃ Am cm R lk Aw nw cw, FRaw w own K n Am cm (fun v => ev (mate v)) R S.turn lk Aw nw cw (S.wait.map iv) ∧ Ab n R S

section
variable {w w' : World} {own : Nat → Prop} {K : Nat → Nat} {n : Nat} {mate : Nat → Option Nat} {S : FS}
theorem FM.drewN (h : FM w own K n mate S) (k : Nat) : FM (w.drewN k) own K n mate S := by
  obtain ⟨Am, cm, R, lk, Aw, nw, cw, f, ab⟩ := h
  exact ⟨Am, cm, R, lk, Aw, nw, cw, f.drewN k, ab⟩
theorem FM.drew (h : FM w own K n mate S) : FM w.drew own K n mate S := h.drewN 1
theorem FM.alloc (h : FM w own K n mate S) (o : Obj) : FM (w.alloc o) own K n mate S := by
  obtain ⟨Am, cm, R, lk, Aw, nw, cw, f, ab⟩ := h
  exact ⟨Am, cm, R, lk, Aw, nw, cw, f.alloc o, ab⟩
theorem FM.frNo (h : FM w own K n mate S) (k : Fr No w w') : FM w' own K n mate S := by
  obtain ⟨Am, cm, R, lk, Aw, nw, cw, f, ab⟩ := h
  exact ⟨Am, cm, R, lk, Aw, nw, cw, f.fr k (fun _ h => h.elim) (fun _ _ h => h.elim), ab⟩
theorem FM.owns (h : FM w own K n mate S) (i : Nat) (hi : 2 ≤ i ∧ i ≤ 13) : own (K i) := by
  obtain ⟨Am, cm, R, lk, Aw, nw, cw, f, ab⟩ := h
  exact f.owns i hi.1 hi.2
theorem FM.setLabel (h : FM w own K n mate S) (v : Nat) (x : Nat) : FM (w.setCell ⟨K 2, v, none⟩ (iv x)) own K n mate { S with label := fun u => if u = v then x else S.label u } := by
  obtain ⟨Am, cm, R, lk, Aw, nw, cw, f, ab⟩ := h
  refine ⟨Am, cm, _, lk, Aw, nw, cw, f.set 2 (by omega) v _, ?_⟩
  refine ⟨fun u hu => ?_, fun u hu => ?_, fun u hu => ?_, fun u hu => ?_, fun u hu => ?_, fun u hu => ?_, fun u hu => ?_, fun u hu => ?_, fun u hu => ?_, fun u hu => ?_, fun u hu => ?_, fun u hu => ?_⟩
  · by_cases e : u = v
    · simp [e]
    · simpa [e] using ab.label u hu
  · simpa using ab.outer u hu
  · simpa using ab.even u hu
  · simpa using ab.odd u hu
  · simpa using ab.pred u hu
  · simpa using ab.root u hu
  · simpa using ab.br1 u hu
  · simpa using ab.br2 u hu
  · simpa using ab.gone u hu
  · simpa using ab.up u hu
  · simpa using ab.base u hu
  · simpa using ab.mark u hu
theorem FM.setOuter (h : FM w own K n mate S) (v : Nat) (x : Bool) : FM (w.setCell ⟨K 3, v, none⟩ (.bool x)) own K n mate { S with outer := fun u => if u = v then x else S.outer u } := by
  obtain ⟨Am, cm, R, lk, Aw, nw, cw, f, ab⟩ := h
  refine ⟨Am, cm, _, lk, Aw, nw, cw, f.set 3 (by omega) v _, ?_⟩
  refine ⟨fun u hu => ?_, fun u hu => ?_, fun u hu => ?_, fun u hu => ?_, fun u hu => ?_, fun u hu => ?_, fun u hu => ?_, fun u hu => ?_, fun u hu => ?_, fun u hu => ?_, fun u hu => ?_, fun u hu => ?_⟩
  · simpa using ab.label u hu
  · by_cases e : u = v
    · simp [e]
    · simpa [e] using ab.outer u hu
  · simpa using ab.even u hu
  · simpa using ab.odd u hu
  · simpa using ab.pred u hu
  · simpa using ab.root u hu
  · simpa using ab.br1 u hu
  · simpa using ab.br2 u hu
  · simpa using ab.gone u hu
  · simpa using ab.up u hu
  · simpa using ab.base u hu
  · simpa using ab.mark u hu
theorem FM.setEven (h : FM w own K n mate S) (v : Nat) (x : Int) : FM (w.setCell ⟨K 4, v, none⟩ (.int .i64 x)) own K n mate S := by
  obtain ⟨Am, cm, R, lk, Aw, nw, cw, f, ab⟩ := h
  refine ⟨Am, cm, _, lk, Aw, nw, cw, f.set 4 (by omega) v _, ?_⟩
  refine ⟨fun u hu => ?_, fun u hu => ?_, fun u hu => ?_, fun u hu => ?_, fun u hu => ?_, fun u hu => ?_, fun u hu => ?_, fun u hu => ?_, fun u hu => ?_, fun u hu => ?_, fun u hu => ?_, fun u hu => ?_⟩
  · simpa using ab.label u hu
  · simpa using ab.outer u hu
  · by_cases e : u = v
    · exact ⟨x, by simp [e]⟩
    · simpa [e] using ab.even u hu
  · simpa using ab.odd u hu
  · simpa using ab.pred u hu
  · simpa using ab.root u hu
  · simpa using ab.br1 u hu
  · simpa using ab.br2 u hu
  · simpa using ab.gone u hu
  · simpa using ab.up u hu
  · simpa using ab.base u hu
  · simpa using ab.mark u hu
theorem FM.setOdd (h : FM w own K n mate S) (v : Nat) (x : Int) : FM (w.setCell ⟨K 5, v, none⟩ (.int .i64 x)) own K n mate S := by
  obtain ⟨Am, cm, R, lk, Aw, nw, cw, f, ab⟩ := h
  refine ⟨Am, cm, _, lk, Aw, nw, cw, f.set 5 (by omega) v _, ?_⟩
  refine ⟨fun u hu => ?_, fun u hu => ?_, fun u hu => ?_, fun u hu => ?_, fun u hu => ?_, fun u hu => ?_, fun u hu => ?_, fun u hu => ?_, fun u hu => ?_, fun u hu => ?_, fun u hu => ?_, fun u hu => ?_⟩
  · simpa using ab.label u hu
  · simpa using ab.outer u hu
  · simpa using ab.even u hu
  · by_cases e : u = v
    · exact ⟨x, by simp [e]⟩
    · simpa [e] using ab.odd u hu
  · simpa using ab.pred u hu
  · simpa using ab.root u hu
  · simpa using ab.br1 u hu
  · simpa using ab.br2 u hu
  · simpa using ab.gone u hu
  · simpa using ab.up u hu
  · simpa using ab.base u hu
  · simpa using ab.mark u hu
theorem FM.setPred (h : FM w own K n mate S) (v : Nat) (x : Nat) : FM (w.setCell ⟨K 6, v, none⟩ (iv x)) own K n mate { S with pred := fun u => if u = v then x else S.pred u } := by
  obtain ⟨Am, cm, R, lk, Aw, nw, cw, f, ab⟩ := h
  refine ⟨Am, cm, _, lk, Aw, nw, cw, f.set 6 (by omega) v _, ?_⟩
  refine ⟨fun u hu => ?_, fun u hu => ?_, fun u hu => ?_, fun u hu => ?_, fun u hu => ?_, fun u hu => ?_, fun u hu => ?_, fun u hu => ?_, fun u hu => ?_, fun u hu => ?_, fun u hu => ?_, fun u hu => ?_⟩
  · simpa using ab.label u hu
  · simpa using ab.outer u hu
  · simpa using ab.even u hu
  · simpa using ab.odd u hu
  · by_cases e : u = v
    · simp [e]
    · simpa [e] using ab.pred u hu
  · simpa using ab.root u hu
  · simpa using ab.br1 u hu
  · simpa using ab.br2 u hu
  · simpa using ab.gone u hu
  · simpa using ab.up u hu
  · simpa using ab.base u hu
  · simpa using ab.mark u hu
theorem FM.setRoot (h : FM w own K n mate S) (v : Nat) (x : Option Nat) : FM (w.setCell ⟨K 7, v, none⟩ (ev x)) own K n mate { S with root := fun u => if u = v then x else S.root u } := by
  obtain ⟨Am, cm, R, lk, Aw, nw, cw, f, ab⟩ := h
  refine ⟨Am, cm, _, lk, Aw, nw, cw, f.set 7 (by omega) v _, ?_⟩
  refine ⟨fun u hu => ?_, fun u hu => ?_, fun u hu => ?_, fun u hu => ?_, fun u hu => ?_, fun u hu => ?_, fun u hu => ?_, fun u hu => ?_, fun u hu => ?_, fun u hu => ?_, fun u hu => ?_, fun u hu => ?_⟩
  · simpa using ab.label u hu
  · simpa using ab.outer u hu
  · simpa using ab.even u hu
  · simpa using ab.odd u hu
  · simpa using ab.pred u hu
  · by_cases e : u = v
    · simp [e]
    · simpa [e] using ab.root u hu
  · simpa using ab.br1 u hu
  · simpa using ab.br2 u hu
  · simpa using ab.gone u hu
  · simpa using ab.up u hu
  · simpa using ab.base u hu
  · simpa using ab.mark u hu
theorem FM.setGone (h : FM w own K n mate S) (v : Nat) (x : Bool) : FM (w.setCell ⟨K 9, v, none⟩ (.bool x)) own K n mate { S with gone := fun u => if u = v then x else S.gone u } := by
  obtain ⟨Am, cm, R, lk, Aw, nw, cw, f, ab⟩ := h
  refine ⟨Am, cm, _, lk, Aw, nw, cw, f.set 9 (by omega) v _, ?_⟩
  refine ⟨fun u hu => ?_, fun u hu => ?_, fun u hu => ?_, fun u hu => ?_, fun u hu => ?_, fun u hu => ?_, fun u hu => ?_, fun u hu => ?_, fun u hu => ?_, fun u hu => ?_, fun u hu => ?_, fun u hu => ?_⟩
  · simpa using ab.label u hu
  · simpa using ab.outer u hu
  · simpa using ab.even u hu
  · simpa using ab.odd u hu
  · simpa using ab.pred u hu
  · simpa using ab.root u hu
  · simpa using ab.br1 u hu
  · simpa using ab.br2 u hu
  · by_cases e : u = v
    · simp [e]
    · simpa [e] using ab.gone u hu
  · simpa using ab.up u hu
  · simpa using ab.base u hu
  · simpa using ab.mark u hu
theorem FM.setUp (h : FM w own K n mate S) (v : Nat) (x : Nat) : FM (w.setCell ⟨K 10, v, none⟩ (iv x)) own K n mate { S with up := fun u => if u = v then x else S.up u } := by
  obtain ⟨Am, cm, R, lk, Aw, nw, cw, f, ab⟩ := h
  refine ⟨Am, cm, _, lk, Aw, nw, cw, f.set 10 (by omega) v _, ?_⟩
  refine ⟨fun u hu => ?_, fun u hu => ?_, fun u hu => ?_, fun u hu => ?_, fun u hu => ?_, fun u hu => ?_, fun u hu => ?_, fun u hu => ?_, fun u hu => ?_, fun u hu => ?_, fun u hu => ?_, fun u hu => ?_⟩
  · simpa using ab.label u hu
  · simpa using ab.outer u hu
  · simpa using ab.even u hu
  · simpa using ab.odd u hu
  · simpa using ab.pred u hu
  · simpa using ab.root u hu
  · simpa using ab.br1 u hu
  · simpa using ab.br2 u hu
  · simpa using ab.gone u hu
  · by_cases e : u = v
    · simp [e]
    · simpa [e] using ab.up u hu
  · simpa using ab.base u hu
  · simpa using ab.mark u hu
theorem FM.setBase (h : FM w own K n mate S) (v : Nat) (x : Nat) : FM (w.setCell ⟨K 11, v, none⟩ (iv x)) own K n mate { S with base := fun u => if u = v then x else S.base u } := by
  obtain ⟨Am, cm, R, lk, Aw, nw, cw, f, ab⟩ := h
  refine ⟨Am, cm, _, lk, Aw, nw, cw, f.set 11 (by omega) v _, ?_⟩
  refine ⟨fun u hu => ?_, fun u hu => ?_, fun u hu => ?_, fun u hu => ?_, fun u hu => ?_, fun u hu => ?_, fun u hu => ?_, fun u hu => ?_, fun u hu => ?_, fun u hu => ?_, fun u hu => ?_, fun u hu => ?_⟩
  · simpa using ab.label u hu
  · simpa using ab.outer u hu
  · simpa using ab.even u hu
  · simpa using ab.odd u hu
  · simpa using ab.pred u hu
  · simpa using ab.root u hu
  · simpa using ab.br1 u hu
  · simpa using ab.br2 u hu
  · simpa using ab.gone u hu
  · simpa using ab.up u hu
  · by_cases e : u = v
    · simp [e]
    · simpa [e] using ab.base u hu
  · simpa using ab.mark u hu
theorem FM.setMark (h : FM w own K n mate S) (v : Nat) (x : Int) : FM (w.setCell ⟨K 12, v, none⟩ (.int .i64 x)) own K n mate { S with mark := fun u => if u = v then x else S.mark u } := by
  obtain ⟨Am, cm, R, lk, Aw, nw, cw, f, ab⟩ := h
  refine ⟨Am, cm, _, lk, Aw, nw, cw, f.set 12 (by omega) v _, ?_⟩
  refine ⟨fun u hu => ?_, fun u hu => ?_, fun u hu => ?_, fun u hu => ?_, fun u hu => ?_, fun u hu => ?_, fun u hu => ?_, fun u hu => ?_, fun u hu => ?_, fun u hu => ?_, fun u hu => ?_, fun u hu => ?_⟩
  · simpa using ab.label u hu
  · simpa using ab.outer u hu
  · simpa using ab.even u hu
  · simpa using ab.odd u hu
  · simpa using ab.pred u hu
  · simpa using ab.root u hu
  · simpa using ab.br1 u hu
  · simpa using ab.br2 u hu
  · simpa using ab.gone u hu
  · simpa using ab.up u hu
  · simpa using ab.base u hu
  · by_cases e : u = v
    · simp [e]
    · simpa [e] using ab.mark u hu
theorem FM.setBridge (h : FM w own K n mate S) (v : Nat) (x y : Nat) : FM ((w.setCell ⟨K 8, v * 2, none⟩ (iv x)).setCell ⟨K 8, v * 2 + 1, none⟩ (iv y)) own K n mate { S with bridge := fun u => if u = v then (x, y) else S.bridge u } := by
  obtain ⟨Am, cm, R, lk, Aw, nw, cw, f, ab⟩ := h
  refine ⟨Am, cm, _, lk, Aw, nw, cw, (f.set 8 (by omega) (v * 2) _).set 8 (by omega) (v * 2 + 1) _, ?_⟩
  refine ⟨fun u hu => ?_, fun u hu => ?_, fun u hu => ?_, fun u hu => ?_, fun u hu => ?_, fun u hu => ?_, fun u hu => ?_, fun u hu => ?_, fun u hu => ?_, fun u hu => ?_, fun u hu => ?_, fun u hu => ?_⟩
  · simpa using ab.label u hu
  · simpa using ab.outer u hu
  · simpa using ab.even u hu
  · simpa using ab.odd u hu
  · simpa using ab.pred u hu
  · simpa using ab.root u hu
  · by_cases e : u = v
    · subst e; simp
    · have e1 : ¬ (u * 2 = v * 2 + 1) := by omega
      have e2 : ¬ (u * 2 = v * 2) := by omega
      simp only [e1, e2, e, and_false, if_false]; exact ab.br1 u hu
  · by_cases e : u = v
    · subst e; simp
    · have e1 : ¬ (u * 2 + 1 = v * 2 + 1) := by omega
      have e2 : ¬ (u * 2 + 1 = v * 2) := by omega
      simp only [e1, e2, e, and_false, if_false]; exact ab.br2 u hu
  · simpa using ab.gone u hu
  · simpa using ab.up u hu
  · simpa using ab.base u hu
  · simpa using ab.mark u hu
theorem FM.setTurn (h : FM w own K n mate S) (x : Int) : FM (w.setCell ⟨K 13, 13, none⟩ (.int .i64 x)) own K n mate { S with turn := x } := by
  obtain ⟨Am, cm, R, lk, Aw, nw, cw, f, ab⟩ := h
  exact ⟨Am, cm, R, lk, Aw, nw, cw, f.setTn x, ab.1, ab.2, ab.3, ab.4, ab.5, ab.6, ab.7, ab.8, ab.9, ab.10, ab.11, ab.12⟩
theorem FM.setLooks (h : FM w own K n mate S) (x : Int) : FM (w.setCell ⟨K 13, 15, none⟩ (.int .i64 x)) own K n mate S := by
  obtain ⟨Am, cm, R, lk, Aw, nw, cw, f, ab⟩ := h
  exact ⟨Am, cm, R, x, Aw, nw, cw, f.setLk x, ab⟩
theorem FM.hd (h : FM w own K n mate S) (i : Nat) (hi : 2 ≤ i ∧ i ≤ 12) : w.cell? ⟨K 13, i, none⟩ = some (.slice (some ⟨K i, 0, none⟩) n n) := by
  obtain ⟨Am, cm, R, lk, Aw, nw, cw, f, ab⟩ := h
  exact f.hd i hi
theorem FM.fz (h : FM w own K n mate S) (i : Nat) (hi : 2 ≤ i ∧ i ≤ 12) (v : Nat) : w.frozen? ⟨K i, v, none⟩ = false := by
  obtain ⟨Am, cm, R, lk, Aw, nw, cw, f, ab⟩ := h
  exact f.fz i hi v
theorem FM.hz (h : FM w own K n mate S) (v : Nat) : w.frozen? ⟨K 13, v, none⟩ = false := by
  obtain ⟨Am, cm, R, lk, Aw, nw, cw, f, ab⟩ := h
  exact f.hz v
theorem FM.ne (h : FM w own K n mate S) (i j : Nat) (hi : 2 ≤ i ∧ i ≤ 13) (hj : 2 ≤ j ∧ j ≤ 13) (hij : i ≠ j) : K i ≠ K j := by
  obtain ⟨Am, cm, R, lk, Aw, nw, cw, f, ab⟩ := h
  exact f.ne i j hi hj hij
theorem FM.hTurn (h : FM w own K n mate S) : w.cell? ⟨K 13, 13, none⟩ = some (.int .i64 S.turn) := by
  obtain ⟨Am, cm, R, lk, Aw, nw, cw, f, ab⟩ := h
  exact f.hd13
theorem FM.hLooks (h : FM w own K n mate S) : ∃ x, w.cell? ⟨K 13, 15, none⟩ = some (.int .i64 x) := by
  obtain ⟨Am, cm, R, lk, Aw, nw, cw, f, ab⟩ := h
  exact ⟨lk, f.hd15⟩
/-- The matching: its slice, and each mate. -/
theorem FM.gMate (h : FM w own K n mate S) {v : Nat} (hv : v < n) : ∃ b cm, w.cell? ⟨K 13, 1, none⟩ = some (.slice (some ⟨b, 0, none⟩) n cm) ∧ ¬ own b ∧ ∀ u, u < n → w.cell? ⟨b, u, none⟩ = some (ev (mate u)) := by
  obtain ⟨Am, cm, R, lk, Aw, nw, cw, f, ab⟩ := h
  obtain ⟨b, h1, h2, h3⟩ := f.mate (by omega)
  subst h1
  exact ⟨b, cm, f.hd1, h2, h3⟩
theorem FM.gLabel (h : FM w own K n mate S) {v : Nat} (hv : v < n) : w.cell? ⟨K 2, v, none⟩ = some (.int .i64 (S.label v : Int)) := by
  obtain ⟨Am, cm, R, lk, Aw, nw, cw, f, ab⟩ := h
  exact (f.get 2 (by omega) (by omega) hv).trans (congrArg some (ab.label v hv))
theorem FM.gOuter (h : FM w own K n mate S) {v : Nat} (hv : v < n) : w.cell? ⟨K 3, v, none⟩ = some (.bool (S.outer v)) := by
  obtain ⟨Am, cm, R, lk, Aw, nw, cw, f, ab⟩ := h
  exact (f.get 3 (by omega) (by omega) hv).trans (congrArg some (ab.outer v hv))
theorem FM.gPred (h : FM w own K n mate S) {v : Nat} (hv : v < n) : w.cell? ⟨K 6, v, none⟩ = some (.int .i64 (S.pred v : Int)) := by
  obtain ⟨Am, cm, R, lk, Aw, nw, cw, f, ab⟩ := h
  exact (f.get 6 (by omega) (by omega) hv).trans (congrArg some (ab.pred v hv))
theorem FM.gRoot (h : FM w own K n mate S) {v : Nat} (hv : v < n) : w.cell? ⟨K 7, v, none⟩ = some (ev (S.root v)) := by
  obtain ⟨Am, cm, R, lk, Aw, nw, cw, f, ab⟩ := h
  exact (f.get 7 (by omega) (by omega) hv).trans (congrArg some (ab.root v hv))
theorem FM.gGone (h : FM w own K n mate S) {v : Nat} (hv : v < n) : w.cell? ⟨K 9, v, none⟩ = some (.bool (S.gone v)) := by
  obtain ⟨Am, cm, R, lk, Aw, nw, cw, f, ab⟩ := h
  exact (f.get 9 (by omega) (by omega) hv).trans (congrArg some (ab.gone v hv))
theorem FM.gUp (h : FM w own K n mate S) {v : Nat} (hv : v < n) : w.cell? ⟨K 10, v, none⟩ = some (.int .i64 (S.up v : Int)) := by
  obtain ⟨Am, cm, R, lk, Aw, nw, cw, f, ab⟩ := h
  exact (f.get 10 (by omega) (by omega) hv).trans (congrArg some (ab.up v hv))
theorem FM.gBase (h : FM w own K n mate S) {v : Nat} (hv : v < n) : w.cell? ⟨K 11, v, none⟩ = some (.int .i64 (S.base v : Int)) := by
  obtain ⟨Am, cm, R, lk, Aw, nw, cw, f, ab⟩ := h
  exact (f.get 11 (by omega) (by omega) hv).trans (congrArg some (ab.base v hv))
theorem FM.gMark (h : FM w own K n mate S) {v : Nat} (hv : v < n) : w.cell? ⟨K 12, v, none⟩ = some (.int .i64 (S.mark v)) := by
  obtain ⟨Am, cm, R, lk, Aw, nw, cw, f, ab⟩ := h
  exact (f.get 12 (by omega) (by omega) hv).trans (congrArg some (ab.mark v hv))
theorem FM.gEven (h : FM w own K n mate S) {v : Nat} (hv : v < n) : ∃ x, w.cell? ⟨K 4, v, none⟩ = some (.int .i64 x) := by
  obtain ⟨Am, cm, R, lk, Aw, nw, cw, f, ab⟩ := h
  obtain ⟨x, hx⟩ := ab.even v hv
  exact ⟨x, by rw [f.get 4 (by omega) (by omega) hv, hx]⟩
theorem FM.gOdd (h : FM w own K n mate S) {v : Nat} (hv : v < n) : ∃ x, w.cell? ⟨K 5, v, none⟩ = some (.int .i64 x) := by
  obtain ⟨Am, cm, R, lk, Aw, nw, cw, f, ab⟩ := h
  obtain ⟨x, hx⟩ := ab.odd v hv
  exact ⟨x, by rw [f.get 5 (by omega) (by omega) hv, hx]⟩
theorem FM.gBridge (h : FM w own K n mate S) {v : Nat} (hv : v < n) : w.cell? ⟨K 8, v * 2, none⟩ = some (.int .i64 ((S.bridge v).1 : Int)) ∧ w.cell? ⟨K 8, v * 2 + 1, none⟩ = some (.int .i64 ((S.bridge v).2 : Int)) := by
  obtain ⟨Am, cm, R, lk, Aw, nw, cw, f, ab⟩ := h
  exact ⟨by rw [f.get8 (by omega), ab.br1 v hv]; rfl, by rw [f.get8 (by omega), ab.br2 v hv]; rfl⟩
theorem FM.lt (h : FM w own K n mate S) (i : Nat) (hi : 2 ≤ i ∧ i ≤ 12) : K i < w.heap.size := by
  obtain ⟨Am, cm, R, lk, Aw, nw, cw, f, ab⟩ := h
  exact (f.arr i hi.1 hi.2).lt
end
end Gar

namespace Gar
open Go Go.RowKit
theorem Fr.frz {S : Nat → Prop} {w w' : World} (h : Fr S w w') {a : Addr} {v : Value} (hc : w.cell? a = some v) (hz : w.frozen? a = false) (hn : ¬ S a.block) : w'.frozen? a = false := by
  have := h.block a.block (World.block_lt_of_cell? w a hc) hn
  simp only [World.frozen?, this] at hz ⊢; exact hz
theorem cell_alloc {w : World} {a : Addr} {v : Value} (h : w.cell? a = some v) (o : Obj) : (w.alloc o).cell? a = some v := ((Fr.refl No w).alloc o).cell h id
theorem frz_alloc {w : World} {a : Addr} {v : Value} (h : w.cell? a = some v) (hz : w.frozen? a = false) (o : Obj) : (w.alloc o).frozen? a = false := ((Fr.refl No w).alloc o).frz h hz id

theorem cell_drew {w : World} {a : Addr} {v : Value} (h : w.cell? a = some v) : w.drew.cell? a = some v := h
theorem frz_drew {w : World} {a : Addr} (h : w.frozen? a = false) : w.drew.frozen? a = false := h

section
variable {P : Program}
/-- append, one step of a region that draws: how long it gets, and what it holds, by names of one's own. -/
theorem step_append_to {w : World} {ops : Array Oper} {o : Oper} {a : Act} {K : Act → World → Prop} {Q : Exit → Act → World → Prop} {E : Prop} (hgd : o.guard = none) (s x : Operand) (t : TypeId)
    (ho : o.op = .call { callee := .builtin .append, args := #[s, x], argTypes := #[t, t] })
    (e : TypeId) (i : TypeInfo) (z : Value) (size bytes : Nat) (ht : P.underlying t = some (.slice e)) (hi : P.info? e = some i) (hz : i.zero = some z)
    (hsize : i.size = size) (hby : i.bytes = bytes) (hzs : z.cells.size = size) (hsz : 0 < size) (N : Nat) (XS : List Value)
    {A : Option Addr} {n c : Nat} {xs : List Value} (hs : a.eval s = .slice A n c) (h : Ow w size A n c xs) {A' : Option Addr} {m c' : Nat} {news : List Value} (hxv : a.eval x = .slice A' m c') (hx : Rd w size A' m news)
    (h1 : ∀ u ∈ news, u.oneCell' = true) (hN : n + m = N) (hXS : xs ++ news = XS) (hb : N * bytes ≤ 140737488355328) (hm : N ≤ maxLen)
    (hK : ∀ A2 c2 w', Ow w' size A2 N c2 XS → Fr (InA A) w w' → (∀ b, InA A2 b → InA A b ∨ w.heap.size ≤ b) → K (a.put o.dst (.slice A2 N c2)) w') :
    if Region.wanted o (yielded ops a.tmps) = true then Oper.wp P o a w K Q else E := by
  subst hN; subst hXS
  exact step_append_ow hgd s x t ho e i z size bytes ht hi hz hsize hby hzs hsz hs h hxv hx h1 hb hm hK
/-- The same in a list of operations. -/
theorem wpList_append_to {w : World} {ops : Array Oper} {rest : List Oper} {o : Oper} {a : Act} {Q : Exit → Act → World → Prop} (hgd : o.guard = none) (s x : Operand) (t : TypeId)
    (ho : o.op = .call { callee := .builtin .append, args := #[s, x], argTypes := #[t, t] })
    (e : TypeId) (i : TypeInfo) (z : Value) (size bytes : Nat) (ht : P.underlying t = some (.slice e)) (hi : P.info? e = some i) (hz : i.zero = some z)
    (hsize : i.size = size) (hby : i.bytes = bytes) (hzs : z.cells.size = size) (hsz : 0 < size) (N : Nat) (XS : List Value)
    {A : Option Addr} {n c : Nat} {xs : List Value} (hs : a.eval s = .slice A n c) (h : Ow w size A n c xs) {A' : Option Addr} {m c' : Nat} {news : List Value} (hxv : a.eval x = .slice A' m c') (hx : Rd w size A' m news)
    (h1 : ∀ u ∈ news, u.oneCell' = true) (hN : n + m = N) (hXS : xs ++ news = XS) (hb : N * bytes ≤ 140737488355328) (hm : N ≤ maxLen)
    (hK : ∀ A2 c2 w', Ow w' size A2 N c2 XS → Fr (InA A) w w' → (∀ b, InA A2 b → InA A b ∨ w.heap.size ≤ b) → wpList P ops Q rest (a.put o.dst (.slice A2 N c2)) w') : wpList P ops Q (o :: rest) a w := by
  subst hN; subst hXS
  exact wpList_append_ow hgd s x t ho e i z size bytes ht hi hz hsize hby hzs hsz hs h hxv hx h1 hb hm hK
end
end Gar

namespace Gar
open Go Go.RowKit

/-- One slice that is made: the operation, where its value goes, where its length stands, its type, its element's type, and that one's zero. -/
structure Mk where
  op : Nat
  slot : Nat
  src : Nat
  t : TypeId
  e : TypeId
  z : Value
  sz : Nat

section
variable {P : Program} {ops : Array Oper} {Q : Exit → Act → World → Prop}

def readyOk (ops : Array Oper) (L0 : Array Bool) (ms : List Mk) : Bool :=
  L0.size == ops.size && (List.range ops.size).all fun j => L0.getD j true ||
    match ops[j]? with
    | none => false
    | some o => if ms.any (fun m => m.op == j) then o.after.all fun e => !Region.binds .any e || L0.getD e.on false
      else (ms.all fun m => o.after.any fun e => Region.binds .any e && e.on == m.op) || o.after.any fun e => Region.binds .any e && !L0.getD e.on false && !(ms.any fun m => m.op == e.on)

theorem inj_of_nodup {α β : Type} {f : α → β} : ∀ {l : List α}, (l.map f).Nodup → ∀ x ∈ l, ∀ y ∈ l, f x = f y → x = y
  | [], _, x, hx => by simp at hx
  | a :: l, h, x, hx => by
    rw [List.map_cons, List.nodup_cons] at h
    intro y hy e
    rcases List.mem_cons.1 hx with e1 | hx' <;> rcases List.mem_cons.1 hy with e2 | hy'
    · rw [e1, e2]
    · exact absurd (List.mem_map.2 ⟨y, hy', by rw [← e, e1]⟩) h.1
    · exact absurd (List.mem_map.2 ⟨x, hx', by rw [e, e2]⟩) h.1
    · exact inj_of_nodup h.2 x hx' y hy' e

def shapeOk (L0 : Array Bool) (ms : List Mk) (size : Nat) : Bool :=
  decide ((ms.map (·.op)).Nodup) && decide ((ms.map (·.slot)).Nodup) && ms.all fun m => decide (m.slot < size) && !L0.getD m.op true && ms.all fun m' => decide (m'.slot ≠ m.src)

/-- The operation is the making of it. -/
def MkAt (P : Program) (ops : Array Oper) (a0 : Act) (n : Nat) (m : Mk) : Prop :=
  ((ops[m.op]?).map fun o => (o.op, o.dst, o.guard)) = some (.makeSlice m.t (.tmp m.src) (.tmp m.src), some m.slot, none) ∧
  a0.tmps[m.src]? = some (.int .i64 (n : Int)) ∧ P.underlying m.t = some (.slice m.e) ∧ ∃ i, P.info? m.e = some i ∧ i.zero = some m.z ∧ i.size = m.sz ∧ i.bytes * n ≤ 281474976710656

theorem MkAt.oper {a0 : Act} {n : Nat} {m : Mk} (h : MkAt P ops a0 n m) : ∃ o, ops[m.op]? = some o ∧ o.op = .makeSlice m.t (.tmp m.src) (.tmp m.src) ∧ o.dst = some m.slot ∧ o.guard = none := by
  obtain ⟨o, h1, h2⟩ := Option.map_eq_some_iff.1 h.1
  simp only [Prod.mk.injEq] at h2
  exact ⟨o, h1, h2.1, h2.2.1, h2.2.2⟩

def AllMk (P : Program) (ops : Array Oper) (a0 : Act) (n : Nat) : List Mk → Prop
  | [] => True
  | m :: ms => MkAt P ops a0 n m ∧ AllMk P ops a0 n ms

theorem AllMk.mem {a0 : Act} {n : Nat} : ∀ {ms : List Mk}, AllMk P ops a0 n ms → ∀ m ∈ ms, MkAt P ops a0 n m
  | _ :: _, h, m, hm => by
    rcases List.mem_cons.1 hm with rfl | hm
    · exact h.1
    · exact h.2.mem m hm

def mkPut (n : Nat) (B : Nat → Nat) (a : Act) (m : Mk) : Act := a.put (some m.slot) (.slice (some ⟨B m.op, 0, none⟩) n n)

theorem mkPut_all {n : Nat} {B : Nat → Nat} : ∀ {ms : List Mk} {a0 a : Act}, (ms.map (·.slot)).Nodup → a.defers = a0.defers → a.tmps.size = a0.tmps.size →
    (∀ k, (∀ m ∈ ms, m.slot ≠ k) → a.tmps[k]? = a0.tmps[k]?) → (∀ m ∈ ms, m.slot < a0.tmps.size ∧ a.tmps[m.slot]? = some (.slice (some ⟨B m.op, 0, none⟩) n n)) → a = ms.foldl (mkPut n B) a0
  | [], a0, a, _, hd, hs, ho, _ => by
    obtain ⟨t, d⟩ := a
    obtain ⟨t0, d0⟩ := a0
    simp only at hd; subst hd
    have : t = t0 := Array.ext_getElem? fun k => ho k (by simp)
    subst this; rfl
  | m :: ms, a0, a, hn, hd, hs, ho, hm => by
    rw [List.map_cons, List.nodup_cons] at hn
    refine mkPut_all (ms := ms) hn.2 hd (by rw [hs]; simp [mkPut, Act.put]) (fun k hk => ?_) fun m' hm' => ⟨by have := (hm m' (by simp [hm'])).1; simpa [mkPut, Act.put] using this, (hm m' (by simp [hm'])).2⟩
    by_cases e : m.slot = k
    · subst e
      obtain ⟨h1, h2⟩ := hm m (by simp)
      rw [h2]; simp [mkPut, Act.put, h1]
    · rw [ho k (by intro m' hm'; rcases List.mem_cons.1 hm' with rfl | h; exact e; exact hk m' h)]
      simp only [mkPut, Act.put]
      rw [Array.getElem?_setIfInBounds_ne e]

structure MkInv (ms : List Mk) (n : Nat) (L0 : Array Bool) (a0 : Act) (w0 : World) (f : Nat → Option Nat) (L : Array Bool) (a : Act) (w : World) : Prop where
  size : L.size = L0.size
  at_ : ∀ j d, L.getD j d = if (f j).isSome then true else L0.getD j d
  of : ∀ j, (f j).isSome → ∃ m ∈ ms, m.op = j
  defers : a.defers = a0.defers
  tmps : a.tmps.size = a0.tmps.size
  out : ∀ k, (∀ m ∈ ms, m.slot ≠ k) → a.tmps[k]? = a0.tmps[k]?
  made : ∀ m ∈ ms, ∀ b, f m.op = some b → a.tmps[m.slot]? = some (.slice (some ⟨b, 0, none⟩) n n) ∧ w0.heap.size ≤ b ∧ Cs w b (madeCells m.z.cells (n * m.sz))
  inj : ∀ i j b, f i = some b → f j = some b → i = j
  fr : Fr No w0 w

theorem wpAny_makes {n : Nat} (hn : n ≤ 9223372036854775807) {a0 : Act} {w0 : World} {L0 : Array Bool} (ms : List Mk) (hne : ms ≠ []) (fuel : Nat) (hr : readyOk ops L0 ms = true) (hs : shapeOk L0 ms a0.tmps.size = true)
    (hm : AllMk P ops a0 n ms)
    (h : ∀ (B : Nat → Nat) (w' : World), Fr No w0 w' → (∀ m ∈ ms, w0.heap.size ≤ B m.op ∧ Cs w' (B m.op) (madeCells m.z.cells (n * m.sz))) → (∀ m ∈ ms, ∀ m' ∈ ms, B m.op = B m'.op → m.op = m'.op) →
      wpAny P .any ops Q fuel (ms.foldl (fun L m => L.setIfInBounds m.op true) L0) (ms.foldl (mkPut n B) a0) w') : wpAny P .any ops Q (ms.length + fuel) L0 a0 w0 := by
  simp only [shapeOk, Bool.and_eq_true, decide_eq_true_eq, List.all_eq_true, Bool.not_eq_true'] at hs
  obtain ⟨⟨hs1, hs2⟩, hs3⟩ := hs
  simp only [readyOk, Bool.and_eq_true, beq_iff_eq, List.all_eq_true, List.mem_range] at hr
  obtain ⟨hr0, hr⟩ := hr
  have hlt : ∀ m ∈ ms, m.op < L0.size := fun m hm => by
    have := (hs3 m hm).1.2
    rcases Nat.lt_or_ge m.op L0.size with h | h
    · exact h
    · simp [Array.getD, Nat.not_lt.2 h] at this
  have hopinj := inj_of_nodup hs1
  suffices H : ∀ r f L a w, ((ms.filter fun m => (f m.op).isNone).length = r) → MkInv ms n L0 a0 w0 f L a w → wpAny P .any ops Q (r + fuel) L a w by
    refine H ms.length (fun _ => none) L0 a0 w0 (by simp) ⟨rfl, by simp, by simp, rfl, rfl, fun _ _ => rfl, by simp, by simp, Fr.refl _ _⟩
  intro r
  induction r with
  | zero =>
    intro f L a w hf I
    have hall : ∀ m ∈ ms, ∃ b, f m.op = some b := fun m hm => by
      have h0 : (ms.filter fun m => (f m.op).isNone) = [] := List.eq_nil_of_length_eq_zero hf
      have := List.filter_eq_nil_iff.1 h0 m hm
      cases e : f m.op with
      | none => simp [e] at this
      | some b => exact ⟨b, rfl⟩
    have ha : a = ms.foldl (mkPut n fun i => (f i).getD 0) a0 := mkPut_all hs2 I.defers I.tmps I.out fun m hm => by
      obtain ⟨b, hb⟩ := hall m hm
      exact ⟨(hs3 m hm).1.1, by rw [hb]; exact (I.made m hm b hb).1⟩
    have hL : L = ms.foldl (fun L m => L.setIfInBounds m.op true) L0 := by
      have key : ∀ (l : List Mk) (L0 : Array Bool) j d, (∀ m ∈ l, m.op < L0.size) → (l.foldl (fun L m => L.setIfInBounds m.op true) L0).getD j d = if (∃ m ∈ l, m.op = j) then true else L0.getD j d := by
        intro l
        induction l with
        | nil => simp
        | cons m l ih =>
          intro L0 j d hl
          rw [List.foldl_cons, ih _ _ _ (fun m' hm' => by simpa using hl m' (by simp [hm']))]
          by_cases e : ∃ m' ∈ l, m'.op = j
          · obtain ⟨m', h1, h2⟩ := e
            rw [if_pos ⟨m', h1, h2⟩, if_pos ⟨m', by simp [h1], h2⟩]
          · rw [if_neg e]
            by_cases e2 : m.op = j
            · subst e2
              rw [if_pos ⟨m, by simp, rfl⟩]
              have := hl m (by simp)
              simp [Array.getD, this]
            · rw [if_neg (by rintro ⟨m', h1, h2⟩; rcases List.mem_cons.1 h1 with rfl | h1; exact e2 h2; exact e ⟨m', h1, h2⟩)]
              simp only [Array.getD_eq_getD_getElem?, Array.getElem?_setIfInBounds_ne e2]
      have hsz : ∀ (l : List Mk) (L0 : Array Bool), (l.foldl (fun L m => L.setIfInBounds m.op true) L0).size = L0.size := by
        intro l
        induction l with
        | nil => simp
        | cons m l ih => intro L0; rw [List.foldl_cons, ih]; simp
      apply Array.ext
      · rw [hsz]; exact I.size
      · intro j h1 h2
        have e1 := I.at_ j true
        have e2 := key ms L0 j true hlt
        have g1 : L.getD j true = L[j] := by simp [Array.getD, h1]
        have g2 : (ms.foldl (fun L m => L.setIfInBounds m.op true) L0).getD j true = (ms.foldl (fun L m => L.setIfInBounds m.op true) L0)[j] := by simp [Array.getD, h2]
        rw [← g1, ← g2, e1, e2]
        by_cases e : ∃ m ∈ ms, m.op = j
        · rw [if_pos e]
          obtain ⟨m, hm, rfl⟩ := e
          obtain ⟨b, hb⟩ := hall m hm
          simp [hb]
        · rw [if_neg e, if_neg (fun h => e (I.of j h))]
    rw [Nat.zero_add, hL, ha]
    refine h _ w I.fr (fun m hm => ?_) fun m hm m' hm' e => ?_
    · obtain ⟨b, hb⟩ := hall m hm
      simp only [hb, Option.getD_some]; exact (I.made m hm b hb).2
    · obtain ⟨b, hb⟩ := hall m hm
      obtain ⟨b', hb'⟩ := hall m' hm'
      simp only [hb, hb', Option.getD_some] at e
      subst e
      exact I.inj _ _ _ hb hb'
  | succ r ih =>
    intro f L a w hf I
    rw [show r + 1 + fuel = (r + fuel) + 1 from by omega]
    -- one that is left
    have hleft : ∃ m ∈ ms, f m.op = none := by
      cases hl : (ms.filter fun m => (f m.op).isNone) with
      | nil => rw [hl] at hf; simp at hf
      | cons m l =>
        have hm : m ∈ ms.filter fun m => (f m.op).isNone := by rw [hl]; simp
        rw [List.mem_filter] at hm
        exact ⟨m, hm.1, by simpa using hm.2⟩
    have hready : ∀ j, j ∈ Region.ready .any ops L ↔ ∃ m ∈ ms, m.op = j ∧ f j = none := by
      intro j
      rw [mem_ready]
      constructor
      · rintro ⟨h0, o, ho, hd⟩
        have hj : j < ops.size := (Array.getElem?_eq_some_iff.1 ho).1
        have h1 := hr j hj
        rw [I.at_] at h0
        have hfn : f j = none := by cases e : f j <;> simp_all
        simp only [hfn, Option.isSome_none, Bool.false_eq_true, if_false] at h0
        rw [h0, ho] at h1
        simp only [Bool.false_or] at h1
        by_cases hmk : ms.any (fun m => m.op == j) = true
        · obtain ⟨m, h2, h3⟩ := List.any_eq_true.1 hmk
          exact ⟨m, h2, by simpa using h3, hfn⟩
        · rw [if_neg hmk, Bool.or_eq_true] at h1
          rcases h1 with h1 | h1
          · obtain ⟨m, h2, h3⟩ := hleft
            have h4 := List.all_eq_true.1 h1 m h2
            rw [Array.any_eq_true'] at h4
            obtain ⟨e, h4, h5⟩ := h4
            simp only [Bool.and_eq_true, beq_iff_eq] at h5
            have h7 := hd e h4 h5.1
            rw [I.at_, h5.2, h3] at h7
            simp only [Option.isSome_none, Bool.false_eq_true, if_false] at h7
            have h8 := (hs3 m h2).1.2
            have h9 := hlt m h2
            simp [Array.getD, h9] at h7 h8
            rw [h7] at h8; cases h8
          · rw [Array.any_eq_true'] at h1
            obtain ⟨e, h4, h5⟩ := h1
            simp only [Bool.and_eq_true, Bool.not_eq_true'] at h5
            obtain ⟨⟨h5, h6⟩, h7⟩ := h5
            have h8 := hd e h4 h5
            rw [I.at_] at h8
            have h9 : (f e.on).isSome = false := by
              cases e1 : (f e.on).isSome with
              | false => rfl
              | true =>
                obtain ⟨m, g1, g2⟩ := I.of _ e1
                have := List.any_eq_false.1 h7 m g1
                simp [g2] at this
            rw [h9] at h8
            simp only [Bool.false_eq_true, if_false] at h8
            rw [h6] at h8; cases h8
      · rintro ⟨m, h1, rfl, h2⟩
        obtain ⟨o, ho, _⟩ := (hm.mem m h1).oper
        have hj : m.op < ops.size := (Array.getElem?_eq_some_iff.1 ho).1
        have h3 := hr _ hj
        have h4 := (hs3 m h1).1.2
        refine ⟨by rw [I.at_, h2]; simpa using h4, o, ho, fun e he hb => ?_⟩
        rw [h4, ho] at h3
        rw [I.at_]
        cases e1 : (f e.on).isSome with
        | true => simp
        | false =>
          simp only [Bool.false_eq_true, if_false]
          simp only [Bool.false_or] at h3
          rw [if_pos (List.any_eq_true.2 ⟨m, h1, by simp⟩), Array.all_eq_true_iff_forall_mem] at h3
          have := h3 e he
          rw [hb] at this
          simpa using this
    refine ⟨fun h0 => ?_, fun i hi => ?_⟩
    · obtain ⟨m, h1, h2⟩ := hleft
      have := (hready m.op).2 ⟨m, h1, rfl, h2⟩
      rw [h0] at this; cases this
    · obtain ⟨m, h1, rfl, h2⟩ := (hready i).1 hi
      obtain ⟨o, ho, hop, hdst, hg⟩ := (hm.mem m h1).oper
      obtain ⟨_, hsrc, hty, inf, hi1, hi2, hi3, hi4⟩ := hm.mem m h1
      unfold wpOp
      rw [ho]
      show if Region.wanted o (yielded ops a.tmps) = true then _ else _
      have hw : Region.wanted o (yielded ops a.tmps) = true := by simp [Region.wanted, hg]
      rw [if_pos hw]
      left
      have hev : a.eval (.tmp m.src) = .int .i64 (n : Int) := by
        have h3 := I.out m.src fun m' hm' => by simpa using (hs3 m h1).2 m' hm'
        simp only [Act.eval, Array.getD_eq_getD_getElem?]
        rw [h3, hsrc]; rfl
      have hrun := run_make (P := P) w m.t m.e inf m.z hty hi1 hi2 .i64 .i64 n n (by omega) (by omega) (by rw [← Int.natCast_mul]; omega) (by omega)
      unfold Oper.wp
      simp only [execOp, hop, hev, Int.toNat_natCast, hi3] at hrun ⊢
      simp only [Sem.run_bind, hrun, Result.andThen_ok, Sem.run_pure, Oper.upon]
      rw [hdst]
      refine ih (fun j => if j = m.op then some w.heap.size else f j) _ _ _ ?_ ⟨?_, ?_, ?_, ?_, ?_, ?_, ?_, ?_, ?_⟩
      · have key : ∀ l : List Mk, (l.map (·.op)).Nodup → m ∈ l → (l.filter fun m' => (f m'.op).isNone).length = (l.filter fun m' => (if m'.op = m.op then some w.heap.size else f m'.op).isNone).length + 1 := by
          intro l
          induction l with
          | nil => simp
          | cons x l ihl =>
            intro hnd hml
            rw [List.map_cons, List.nodup_cons] at hnd
            rcases List.mem_cons.1 hml with e | hml
            · subst e
              rw [List.filter_cons_of_pos (by simp [h2]), List.filter_cons_of_neg (by simp), List.length_cons]
              congr 1
              congr 1
              apply List.filter_congr
              intro x hx
              have : ¬ x.op = m.op := fun e => hnd.1 (List.mem_map.2 ⟨x, hx, e⟩)
              simp [this]
            · have e : ¬ x.op = m.op := fun e => hnd.1 (List.mem_map.2 ⟨m, hml, e.symm⟩)
              have := ihl hnd.2 hml
              by_cases e2 : (f x.op).isNone
              · rw [List.filter_cons_of_pos (by simpa using e2), List.filter_cons_of_pos (by simpa [e] using e2), List.length_cons, List.length_cons, this]
              · rw [List.filter_cons_of_neg (by simpa using e2), List.filter_cons_of_neg (by simpa [e] using e2), this]
        have := key ms hs1 h1
        omega
      · simp [I.size]
      · intro j d
        by_cases e : j = m.op
        · subst e
          have := hlt m h1
          have h3 := I.size
          simp [Array.getD, h3, this]
        · have e' : ¬ m.op = j := fun h => e h.symm
          simp only [e, if_false, Array.getD_eq_getD_getElem?, Array.getElem?_setIfInBounds_ne e']
          rw [← Array.getD_eq_getD_getElem?, ← Array.getD_eq_getD_getElem?]; exact I.at_ j d
      · intro j hj
        by_cases e : j = m.op
        · exact ⟨m, h1, e.symm⟩
        · simp only [e, if_false] at hj; exact I.of j hj
      · exact I.defers
      · simp [Act.put, I.tmps]
      · intro k hk
        simp only [Act.put]
        rw [Array.getElem?_setIfInBounds_ne (hk m h1)]; exact I.out k hk
      · intro m' hm' b hb
        by_cases e : m'.op = m.op
        · have := hopinj m' hm' m h1 e
          subst this
          simp only [if_true, Option.some.injEq] at hb
          subst hb
          refine ⟨?_, I.fr.size, Cs.new _ _ _⟩
          have := (hs3 m' h1).1.1
          simp [Act.put, I.tmps, this]
        · simp only [e, if_false] at hb
          obtain ⟨g1, g2, g3⟩ := I.made m' hm' b hb
          refine ⟨?_, g2, g3.alloc _⟩
          have : m.slot ≠ m'.slot := fun e2 => e (by rw [inj_of_nodup hs2 m h1 m' hm' e2])
          simp only [Act.put]
          rw [Array.getElem?_setIfInBounds_ne this]; exact g1
      · intro i j b hi hj
        have hold : ∀ k b, f k = some b → b < w.heap.size := fun k b hk => by
          obtain ⟨m', g1, rfl⟩ := I.of k (by rw [hk]; rfl)
          exact (I.made m' g1 b hk).2.2.lt
        by_cases e1 : i = m.op <;> by_cases e2 : j = m.op
        · rw [e1, e2]
        · simp only [e1, e2, if_true, if_false, Option.some.injEq] at hi hj
          have := hold j b hj; omega
        · simp only [e1, e2, if_true, if_false, Option.some.injEq] at hi hj
          have := hold i b hi; omega
        · simp only [e1, e2, if_false] at hi hj
          exact I.inj i j b hi hj
      · exact I.fr.alloc _

/-- Some moves, taken first, one by one: the operation, where its value goes, what is moved, its value. -/
def mvOk (ops : Array Oper) : Array Bool → List (Nat × Nat × Operand × Value) → Bool
  | _, [] => true
  | L, m :: l => Region.free .any ops L m.1 && (Region.ready .any ops L).contains m.1 && mvOk ops (L.setIfInBounds m.1 true) l
def AllMv (ops : Array Oper) : Act → List (Nat × Nat × Operand × Value) → Prop
  | _, [] => True
  | a, m :: l => ((ops[m.1]?).map fun o => (o.op, o.dst, o.guard)) = some (.move m.2.2.1, some m.2.1, none) ∧ a.eval m.2.2.1 = m.2.2.2 ∧ AllMv ops (a.put (some m.2.1) m.2.2.2) l

theorem wpAny_moves (hs : Region.noSelect ops = true) (hQ : ∀ (d : Nat) v c a w, Q (.panic c) (Act.put a (some d) v) w → Q (.panic c) a w) {w : World} {fuel : Nat} : ∀ (l : List (Nat × Nat × Operand × Value)) (L : Array Bool) (a : Act),
    mvOk ops L l = true → AllMv ops a l → wpAny P .any ops Q fuel (l.foldl (fun L m => L.setIfInBounds m.1 true) L) (l.foldl (fun a m => a.put (some m.2.1) m.2.2.2) a) w → wpAny P .any ops Q (l.length + fuel) L a w
  | [], _, _, _, _, h => by simpa using h
  | m :: l, L, a, h1, h2, h => by
    simp only [mvOk, Bool.and_eq_true] at h1
    obtain ⟨o, ho, e⟩ := Option.map_eq_some_iff.1 h2.1
    simp only [Prod.mk.injEq] at e
    obtain ⟨e1, e2, e3⟩ := e
    rw [List.length_cons, show l.length + 1 + fuel = (l.length + fuel) + 1 from by omega]
    refine wpAny_take ho hs h1.1.1 h1.1.2 (fun c a w => by rw [e2]; exact hQ _ _ c a w) (v := m.2.2.2) (.inl ⟨by simp [Region.wanted, e3], fun w => ?_⟩) ?_
    · simp only [execOp, e1, Sem.run_pure, h2.2.1]
    · rw [e2]; exact wpAny_moves hs hQ l _ _ h1.2 h2.2.2 h
theorem wpAny_moves' (hs : Region.noSelect ops = true) (hQ : ∀ (d : Nat) v c a w, Q (.panic c) (Act.put a (some d) v) w → Q (.panic c) a w) {w : World} {fuel : Nat} (l : List (Nat × Nat × Operand × Value)) {L : Array Bool} {a : Act}
    (L1 : Array Bool) (hL : l.foldl (fun L m => L.setIfInBounds m.1 true) L = L1) (h1 : mvOk ops L l = true) (h2 : AllMv ops a l)
    (h : wpAny P .any ops Q fuel L1 (l.foldl (fun a m => a.put (some m.2.1) m.2.2.2) a) w) : wpAny P .any ops Q (l.length + fuel) L a w :=
  wpAny_moves hs hQ l L a h1 h2 (by rw [hL]; exact h)
theorem wpAny_makes' {n : Nat} (hn : n ≤ 9223372036854775807) {a0 : Act} {w0 : World} {L0 : Array Bool} (ms : List Mk) (hne : ms ≠ []) (fuel : Nat) (L1 : Array Bool) (hL : ms.foldl (fun L m => L.setIfInBounds m.op true) L0 = L1) (hr : readyOk ops L0 ms = true) (hs : shapeOk L0 ms a0.tmps.size = true)
    (hm : AllMk P ops a0 n ms)
    (h : ∀ (B : Nat → Nat) (w' : World), Fr No w0 w' → (∀ m ∈ ms, w0.heap.size ≤ B m.op ∧ Cs w' (B m.op) (madeCells m.z.cells (n * m.sz))) → (∀ m ∈ ms, ∀ m' ∈ ms, B m.op = B m'.op → m.op = m'.op) →
      wpAny P .any ops Q fuel L1 (ms.foldl (mkPut n B) a0) w') : wpAny P .any ops Q (ms.length + fuel) L0 a0 w0 :=
  wpAny_makes hn ms hne fuel hr hs hm (by rw [hL]; exact h)
end
end Gar
