/-
  PROVED: lemmas of the claim; no condition beyond what each one states.
  Walks: how two edges compare.
  Walks: Right, of a graph that is one.
  Walks: the reference's ahead, turned, Is, Right (of a graph that is one).
  Walks: the reference's Right, Index, Has, of a graph that is one.
  Walks: the reference's Index, Has.
  PLAIN LAW. An edge more, put where it stands in the order.
  Walks: the reference's put.
  Walks: the reference's Add.
-/
import Derived.Test.YtohpjggnhnjgpaaPart1
import Derived.Test.YtohpjggnhnjgpaaProg
import Derived.Laws.Cover3
import Derived.Lib.SliceRun
import Derived.Test.YtohpjggnhnjgpaaPart4
set_option linter.unusedVariables false
set_option linter.unusedSimpArgs false

namespace Gar
open Go Go.RowKit Go.Proofs
set_option maxRecDepth 100000
set_option maxHeartbeats 1600000
variable {w : World}

/-- How two numbers compare. -/
def cmpI (a b : Int) : Int := if a < b then -1 else if b < a then 1 else 0
def orI (x y : Int) : Int := if x ≠ 0 then x else y

theorem isNaN_spec {a : Int} : Calls Try.prog 78 #[.int .i64 a] w (fun e w' => e = .returned (.bool false) ∧ w' = w) := by
  go_enter Try.func78, Try.ntmps78
  go_wp2_with fail
  go_ret
  exact ⟨by simp, rfl⟩

theorem cmp_spec {a b : Int} : Calls Try.prog 64 #[.int .i64 a, .int .i64 b] w (fun e w' => e = .returned (.int .i64 (cmpI a b)) ∧ w' = w) := by
  rcases Int.lt_trichotomy a b with h | h | h
  · have e : cmpI a b = -1 := by unfold cmpI; rw [if_pos h]
    rw [e]
    go_enter Try.func64, Try.ntmps64
    go_wp2_with (go_at_call 78; refine isNaN_spec.mono ?_; rintro e w' ⟨rfl, rfl⟩)
    go_ret
    exact ⟨rfl, rfl⟩
  · have e : cmpI a b = 0 := by unfold cmpI; rw [if_neg (by omega), if_neg (by omega)]
    rw [e]
    subst h
    go_enter Try.func64, Try.ntmps64
    go_wp2_with (go_at_call 78; refine isNaN_spec.mono ?_; rintro e w' ⟨rfl, rfl⟩)
    go_ret
    exact ⟨rfl, rfl⟩
  · have e : cmpI a b = 1 := by unfold cmpI; rw [if_neg (by omega), if_pos h]
    rw [e]
    have h2 : ¬ a < b := by omega
    go_enter Try.func64, Try.ntmps64
    go_wp2_with (go_at_call 78; refine isNaN_spec.mono ?_; rintro e w' ⟨rfl, rfl⟩)
    go_ret
    exact ⟨rfl, rfl⟩

def OrRel (x y : Int) (w : World) (g : Nat) (i : Value) (wr : World) : Prop :=
  ∃ k : Nat, i = .int .i64 (k : Int) ∧ k ≤ 2 ∧ g = 2 - k ∧ wr = w ∧ (1 ≤ k → x = 0) ∧ (2 ≤ k → y = 0)

theorem or_spec {b c : Nat} {x y : Int} (h0 : w.cell? ⟨b, 0, none⟩ = some (.int .i64 x)) (h1 : w.cell? ⟨b, 1, none⟩ = some (.int .i64 y)) :
    Calls Try.prog 63 #[.slice (some ⟨b, 0, none⟩) 2 c] w (fun e w' => e = .returned (.int .i64 (orI x y)) ∧ w' = w) := by
  go_enter Try.func63, Try.ntmps63
  go_wp2_with fail
  go_loopg [8] 2 (OrRel x y w)
  case atStart => exact ⟨0, rfl, by omega, rfl, rfl, by omega, by omega⟩
  case round =>
    obtain ⟨k, rfl, hk, hg, rfl, hx, hy⟩ := hrel
    have HG := Lib.hid hg
    clear hg
    have : k = 0 ∨ k = 1 ∨ k = 2 := by omega
    rcases this with rfl | rfl | rfl
    · clear hx hy
      by_cases hx : x = 0
      · subst hx
        go_wp2_with fail
        go_roundg 1
        case measure => rw [HG.out]; decide
        case rel => exact ⟨1, rfl, by omega, rfl, rfl, fun _ => rfl, by omega⟩
      · go_wp2_with fail
        go_ret
        exact ⟨by unfold orI; rw [if_pos hx]; rfl, rfl⟩
    · have hx := hx (by omega)
      clear hy
      subst hx
      by_cases hy : y = 0
      · subst hy
        go_wp2_with fail
        go_roundg 0
        case measure => rw [HG.out]; decide
        case rel => exact ⟨2, rfl, by omega, rfl, rfl, fun _ => rfl, fun _ => rfl⟩
      · go_wp2_with fail
        go_ret
        exact ⟨by unfold orI; rfl, rfl⟩
    · have hx := hx (by omega)
      have hy := hy (by omega)
      subst hx hy
      go_wp2_with fail
      go_ret
      exact ⟨by unfold orI; rfl, rfl⟩

/-- How two edges compare. -/
def edgeI (a b : Nat × Nat) : Int := orI (cmpI a.1 b.1) (cmpI a.2 b.2)

def ComparePost (w : World) (a b : Nat × Nat) (e : Ending) (w' : World) : Prop := e = .returned (.int .i64 (edgeI a b)) ∧ Fr No w w'

theorem compare_spec {a b : Nat × Nat} :
    Calls Try.prog 48 #[.agg #[], .agg #[iv a.1, iv a.2], .agg #[iv b.1, iv b.2]] w (ComparePost w a b) := by
  simp only [iv]
  go_enter Try.func48, Try.ntmps48
  go_wp2_with fail
  have f1 : Fr No w (((w.alloc (.cells #[] 83)).alloc (.cells #[.int .i64 (a.1 : Int), .int .i64 (a.2 : Int)] 56)).alloc (.cells #[.int .i64 (b.1 : Int), .int .i64 (b.2 : Int)] 56)) := (((Fr.refl _ _).alloc _).alloc _).alloc _
  have c1 := (Cs.new (w.alloc (.cells #[] 83)) 56 #[.int .i64 (a.1 : Int), .int .i64 (a.2 : Int)]).alloc (.cells #[.int .i64 (b.1 : Int), .int .i64 (b.2 : Int)] 56)
  have c2 := Cs.new ((w.alloc (.cells #[] 83)).alloc (.cells #[.int .i64 (a.1 : Int), .int .i64 (a.2 : Int)] 56)) 56 #[.int .i64 (b.1 : Int), .int .i64 (b.2 : Int)]
  have e1 : (w.alloc (.cells #[] 83)).heap.size = w.heap.size + 1 := by simp
  have e2 : ((w.alloc (.cells #[] 83)).alloc (.cells #[.int .i64 (a.1 : Int), .int .i64 (a.2 : Int)] 56)).heap.size = w.heap.size + 1 + 1 := by simp
  rw [e1] at c1
  rw [e2] at c2
  have a1 := c1.cell 0
  have a2 := c1.cell 1
  have b1 := c2.cell 0
  have b2 := c2.cell 1
  generalize ((w.alloc (.cells #[] 83)).alloc (.cells #[.int .i64 (a.1 : Int), .int .i64 (a.2 : Int)] 56)).alloc (.cells #[.int .i64 (b.1 : Int), .int .i64 (b.2 : Int)] 56) = w1 at f1 a1 a2 b1 b2 ⊢
  clear e1 e2 c1 c2
  generalize w.heap.size + 1 = k1 at *
  generalize k1 + 1 = k2 at *
  simp only [List.getElem?_toArray, List.getElem?_cons_zero, List.getElem?_cons_succ] at a1 a2 b1 b2
  go_region_held3 (fun w' => w'.cell? ⟨k1, 0, none⟩ = some (.int .i64 (a.1 : Int)) ∧ w'.cell? ⟨k1, 1, none⟩ = some (.int .i64 (a.2 : Int)) ∧ w'.cell? ⟨k2, 0, none⟩ = some (.int .i64 (b.1 : Int)) ∧ w'.cell? ⟨k2, 1, none⟩ = some (.int .i64 (b.2 : Int))) (first | (simp [*]; done) | (refine ⟨?_, ?_, ?_, ?_⟩ <;> exact ((Fr.refl No _).alloc _).cell (by assumption) id)) (first
    | (go_at_call 64; refine cmp_spec.mono ?_; rintro e w' ⟨rfl, rfl⟩)
    | (go_at_call 63; refine (or_spec (World.cell?_alloc_new _ _ _ 0) (World.cell?_alloc_new _ _ _ 1)).mono ?_; rintro e w' ⟨rfl, rfl⟩))
  go_wp2_with fail
  go_ret
  exact ⟨rfl, (f1.alloc _).drew⟩

theorem edgeI_lt {a b : Nat × Nat} (h : a.1 < b.1 ∨ (a.1 = b.1 ∧ a.2 < b.2)) : edgeI a b = -1 := by
  unfold edgeI
  rcases h with h | ⟨h1, h2⟩
  · have e : cmpI (a.1 : Int) (b.1 : Int) = -1 := by unfold cmpI; rw [if_pos (by omega)]
    rw [e]; rfl
  · have e : cmpI (a.1 : Int) (b.1 : Int) = 0 := by unfold cmpI; rw [if_neg (by omega), if_neg (by omega)]
    have e2 : cmpI (a.2 : Int) (b.2 : Int) = -1 := by unfold cmpI; rw [if_pos (by omega)]
    rw [e, e2]; rfl
end Gar

namespace Gar
open Go Go.RowKit Go.Proofs
set_option maxRecDepth 100000
set_option maxHeartbeats 1600000
variable {w : World} {n : Nat} {es : List (Nat × Nat)}

/-- Edges, as they lie. -/
def cellsOf (es : List (Nat × Nat)) : List Value := es.flatMap fun e => [iv e.1, iv e.2]

theorem cellsOf_len (es : List (Nat × Nat)) : (cellsOf es).length = es.length * 2 := by
  induction es with
  | nil => rfl
  | cons e es ih => simp only [cellsOf, List.flatMap_cons, List.length_append, List.length_cons, List.length_nil] at ih ⊢; omega
theorem cellsOf_get : ∀ {es : List (Nat × Nat)} {i : Nat} (h : i < es.length), (cellsOf es)[i * 2]? = some (iv es[i].1) ∧ (cellsOf es)[i * 2 + 1]? = some (iv es[i].2)
  | e :: es, 0, _ => by simp [cellsOf]
  | e :: es, i + 1, h => by
    have ih := cellsOf_get (es := es) (i := i) (by simpa using h)
    have e1 : (i + 1) * 2 = i * 2 + 2 := by omega
    have e2 : i * 2 + 2 + 1 = i * 2 + 1 + 2 := by omega
    simp only [cellsOf, List.flatMap_cons, e1, e2] at ih ⊢
    rw [List.getElem?_append_right (by simp), List.getElem?_append_right (by simp)]
    simpa using ih

def lexLt (a b : Nat × Nat) : Prop := a.1 < b.1 ∨ (a.1 = b.1 ∧ a.2 < b.2)

/-- A graph. -/
structure Good (n : Nat) (es : List (Nat × Nat)) : Prop where
  n_le : n ≤ 4096
  m_le : es.length ≤ 65536
  mem : ∀ e ∈ es, e.1 < e.2 ∧ e.2 < n
  sorted : es.Pairwise lexLt

def RightRel (w1 : World) (m : Nat) (g : Nat) (x : Value) (wr : World) : Prop := ∃ i : Nat, x = .int .i64 (i : Int) ∧ i ≤ m ∧ g = m - i ∧ Fr No w1 wr

theorem right_spec {Ae : Option Addr} {ce : Nat} (hG : Good n es) (hR : Rd w 2 Ae es.length (cellsOf es)) :
    Calls Try.prog 27 #[.agg #[iv n, .slice Ae es.length ce]] w (fun e w' => e = .returned (.bool true) ∧ Fr No w w') := by
  have hn := hG.n_le
  have hm := hG.m_le
  simp only [iv]
  go_enter Try.func27, Try.ntmps27
  go_upto_region 4 with (fail)
  have f1 : Fr No w (w.alloc (.cells #[.int .i64 (n : Int), .slice Ae es.length ce] 25)) := (Fr.refl _ _).alloc _
  have cg := Cs.new w 25 #[.int .i64 (n : Int), .slice Ae es.length ce]
  have g0 := cg.cell 0
  have g1 := cg.cell 1
  generalize w.alloc (.cells #[.int .i64 (n : Int), .slice Ae es.length ce] 25) = w1 at f1 g0 g1 ⊢
  simp only [List.getElem?_toArray, List.getElem?_cons_zero, List.getElem?_cons_succ] at g0 g1
  clear cg
  generalize w.heap.size = bg at g0 g1 ⊢
  have hR1 := hR.fr f1 fun _ _ => id
  clear hR
  have HG := Lib.hid hG
  clear hG
  go_wp2_with fail
  go_loopg [25] es.length (RightRel w1 es.length)
  case atStart => exact ⟨0, rfl, by omega, by omega, Fr.refl _ _⟩
  case round =>
    obtain ⟨i, rfl, hi, hg, hfr⟩ := hrel
    have HGK := Lib.hid hg
    clear hg
    by_cases hlt : i < es.length
    · obtain ⟨be, oe, rfl, hce⟩ := (hR1.fr hfr fun _ _ => id).at_ (by rw [cellsOf_len]; omega)
      have HE := Lib.hid hce
      obtain ⟨k1, k2⟩ := cellsOf_get hlt
      have p1 := hce _ _ k1
      have p2 := hce _ _ k2
      obtain ⟨m1, m2⟩ := HG.out.mem _ (List.getElem_mem hlt)
      have q0 := hfr.cell g0 id
      have q1 := hfr.cell g1 id
      clear hce k1 k2
      rcases Nat.eq_zero_or_pos i with rfl | hpos
      · generalize es[0] = e at p1 p2 m1 m2
        simp only [iv, Nat.zero_mul, Nat.zero_add, Nat.add_zero] at p1 p2
        have hes : (0 : Int) < (es.length : Int) := by omega
        rw [show ((0 : Nat) : Int) = 0 from rfl]
        go_upto_region 7 with (fail)
        have f2 : Fr No wr (wr.alloc (.cells #[.int .i64 (e.1 : Int), .int .i64 (e.2 : Int)] 56)) := (Fr.refl _ _).alloc _
        have c5 := Cs.new wr 56 #[.int .i64 (e.1 : Int), .int .i64 (e.2 : Int)]
        have r1 := c5.cell 0
        have r2 := c5.cell 1
        generalize wr.alloc (.cells #[.int .i64 (e.1 : Int), .int .i64 (e.2 : Int)] 56) = w2 at f2 r1 r2 ⊢
        generalize wr.heap.size = b5 at r1 r2 ⊢
        simp only [List.getElem?_toArray, List.getElem?_cons_zero, List.getElem?_cons_succ] at r1 r2
        have q0 := f2.cell q0 id
        have q1 := f2.cell q1 id
        clear c5
        have v1 : decide (((e.1 : Nat) : Int) < 0) = false := by simp
        have v2 : decide (e.2 ≤ e.1) = false := by simp; omega
        have v3 : decide (n ≤ e.2) = false := by simp; omega
        clear p1 p2 m1 m2
        go_quiet (fail)
        go_wp2_with fail
        go_roundg (es.length - 1)
        case measure => rw [HGK.out]; omega
        case rel => exact ⟨1, rfl, by omega, rfl, (hfr.step f2).drewN _⟩
      · obtain ⟨j, hj⟩ : ∃ j, j = i - 1 := ⟨_, rfl⟩
        have hlj : j < es.length := by omega
        obtain ⟨k1, k2⟩ := cellsOf_get hlj
        have s1 := HE.out _ _ k1
        have s2 := HE.out _ _ k2
        have hlex : lexLt es[j] es[i] := (List.pairwise_iff_getElem.1 HG.out.sorted) j i hlj hlt (by omega)
        have hcmp := edgeI_lt hlex
        clear k1 k2 hlex
        generalize es[i] = e at p1 p2 m1 m2 hcmp
        generalize es[j] = d at s1 s2 hcmp
        simp only [iv] at p1 p2 s1 s2
        rw [← Nat.add_assoc] at p2 s2
        have hib : i < 9223372036854775807 := by omega
        have hsub : (i : Int) - 1 = (j : Int) := by omega
        have hwr : IntKind.i64.wrap (j : Int) = (j : Int) := by rw [IntKind.wrap_i64]; omega
        have hpi : decide (0 < i) = true := by simp; omega
        have hji : (j : Int) < (es.length : Int) := by omega
        have HJ := Lib.hid hj
        clear hj
        have hes : (i : Int) < (es.length : Int) := by omega
        go_upto_region 7 with (fail)
        have f2 : Fr No wr (wr.alloc (.cells #[.int .i64 (e.1 : Int), .int .i64 (e.2 : Int)] 56)) := (Fr.refl _ _).alloc _
        have c5 := Cs.new wr 56 #[.int .i64 (e.1 : Int), .int .i64 (e.2 : Int)]
        have r1 := c5.cell 0
        have r2 := c5.cell 1
        generalize wr.alloc (.cells #[.int .i64 (e.1 : Int), .int .i64 (e.2 : Int)] 56) = w2 at f2 r1 r2 ⊢
        generalize wr.heap.size = b5 at r1 r2 ⊢
        simp only [List.getElem?_toArray, List.getElem?_cons_zero, List.getElem?_cons_succ] at r1 r2
        have q0 := f2.cell q0 id
        have q1 := f2.cell q1 id
        have s1 := f2.cell s1 id
        have s2 := f2.cell s2 id
        clear c5
        have v1 : decide (((e.1 : Nat) : Int) < 0) = false := by simp
        have v2 : decide (e.2 ≤ e.1) = false := by simp; omega
        have v3 : decide (n ≤ e.2) = false := by simp; omega
        clear p1 p2 m1 m2
        go_region_held3 (fun w' => w'.cell? ⟨b5, 0, none⟩ = some (.int .i64 (e.1 : Int)) ∧ w'.cell? ⟨b5, 1, none⟩ = some (.int .i64 (e.2 : Int)) ∧ w'.cell? ⟨bg, 0, none⟩ = some (.int .i64 (n : Int)) ∧ w'.cell? ⟨bg, 1, none⟩ = some (.slice (some ⟨be, oe, none⟩) es.length ce) ∧
          w'.cell? ⟨be, oe + j * 2, none⟩ = some (.int .i64 (d.1 : Int)) ∧ w'.cell? ⟨be, oe + j * 2 + 1, none⟩ = some (.int .i64 (d.2 : Int))) (first | (simp [*]; done) | (refine ⟨?_, ?_, ?_, ?_, ?_, ?_⟩ <;> exact Fr.cell (by assumption) (by first | assumption | (simp [*]; done)) id)) ((go_at_call 48; refine (compare_spec (a := d) (b := e)).mono ?_; rintro e' w' ⟨rfl, hfrc⟩; rw [hcmp]))
        go_wp2_with fail
        go_roundg (es.length - (i + 1))
        case measure => rw [HGK.out]; omega
        case rel => exact ⟨i + 1, rfl, by omega, rfl, (hfr.step f2).step ((Fr.refl No w2).drew.step hfrc)⟩
    · have : i = es.length := by omega
      subst this
      go_wp2_with fail
      go_ret
      exact ⟨rfl, f1.step hfr⟩
end Gar

namespace Gar
open Go Go.RowKit Go.Proofs
set_option maxRecDepth 100000
set_option maxHeartbeats 1600000
variable {w : World} {n : Nat} {es : List (Nat × Nat)}

def lexB (a b : Nat × Nat) : Bool := decide (a.1 < b.1) || (decide (a.1 = b.1) && decide (a.2 < b.2))
theorem lexB_true {a b : Nat × Nat} : lexB a b = true ↔ lexLt a b := by
  unfold lexB lexLt
  by_cases h : a.1 < b.1 <;> by_cases h2 : a.1 = b.1 <;> by_cases h3 : a.2 < b.2 <;> simp [h, h2, h3]

def AheadPost (w : World) (a b : Nat × Nat) (e : Ending) (w' : World) : Prop := e = .returned (.bool (lexB a b)) ∧ Fr No w w'

theorem ahead_spec {a b : Nat × Nat} :
    Calls Try.prog 57 #[.agg #[.int .i64 (a.1 : Int), .int .i64 (a.2 : Int)], .agg #[.int .i64 (b.1 : Int), .int .i64 (b.2 : Int)]] w (AheadPost w a b) := by
  have f1 : Fr No w ((w.alloc (.cells #[.int .i64 (a.1 : Int), .int .i64 (a.2 : Int)] 56)).alloc (.cells #[.int .i64 (b.1 : Int), .int .i64 (b.2 : Int)] 56)) := ((Fr.refl _ _).alloc _).alloc _
  by_cases h1 : a.1 < b.1
  · have d1 : decide (a.1 < b.1) = true := by simp [h1]
    have hp : AheadPost w a b (.returned (.bool true)) ((w.alloc (.cells #[.int .i64 (a.1 : Int), .int .i64 (a.2 : Int)] 56)).alloc (.cells #[.int .i64 (b.1 : Int), .int .i64 (b.2 : Int)] 56)) := ⟨by rw [show lexB a b = true from by simp [lexB, h1]], f1⟩
    have HP := Lib.hid hp
    clear hp h1 f1
    go_enter Try.func57, Try.ntmps57
    go_wp2_with fail
    go_ret
    exact HP.out
  · by_cases h2 : a.1 = b.1
    · have d1 : decide (a.1 < b.1) = false := by simp [h1]
      have d2 : ((a.1 : Int) == (b.1 : Int)) = true := by simp [h2]
      have hp : AheadPost w a b (.returned (.bool (decide (a.2 < b.2)))) ((w.alloc (.cells #[.int .i64 (a.1 : Int), .int .i64 (a.2 : Int)] 56)).alloc (.cells #[.int .i64 (b.1 : Int), .int .i64 (b.2 : Int)] 56)) := ⟨by rw [show lexB a b = decide (a.2 < b.2) from by simp [lexB, h1, h2]], f1⟩
      have HP := Lib.hid hp
      clear hp h1 h2 f1
      by_cases h3 : a.2 < b.2
      · go_enter Try.func57, Try.ntmps57
        go_wp2_with fail
        go_ret
        simpa [h3] using HP.out
      · go_enter Try.func57, Try.ntmps57
        go_wp2_with fail
        go_ret
        simpa [h3] using HP.out
    · have d1 : decide (a.1 < b.1) = false := by simp [h1]
      have d2 : ((a.1 : Int) == (b.1 : Int)) = false := by simp; omega
      have hp : AheadPost w a b (.returned (.bool false)) ((w.alloc (.cells #[.int .i64 (a.1 : Int), .int .i64 (a.2 : Int)] 56)).alloc (.cells #[.int .i64 (b.1 : Int), .int .i64 (b.2 : Int)] 56)) := ⟨by rw [show lexB a b = false from by simp [lexB, h1, h2]], f1⟩
      have HP := Lib.hid hp
      clear hp h1 h2 f1
      go_enter Try.func57, Try.ntmps57
      go_wp2_with fail
      go_ret
      exact HP.out

/-- An edge, its lesser end first. -/
def turn2 (a b : Nat) : Nat × Nat := if b < a then (b, a) else (a, b)
def Turned2Post (w : World) (a b : Nat) (e : Ending) (w' : World) : Prop := e = .returned (.agg #[.int .i64 ((turn2 a b).1 : Int), .int .i64 ((turn2 a b).2 : Int)]) ∧ Fr No w w'

theorem turned2_spec {a b : Nat} : Calls Try.prog 44 #[.int .i64 (a : Int), .int .i64 (b : Int)] w (Turned2Post w a b) := by
  by_cases h : b < a
  · have ht : turn2 a b = (b, a) := by simp [turn2, h]
    have HT := Lib.hid ht
    clear ht
    have h' : decide (b < a) = true := by simp [h]
    go_enter Try.func44, Try.ntmps44
    go_wp2_with fail
    refine bodyPost_ret (v := .agg #[.int .i64 (b : Int), .int .i64 (a : Int)]) (by simp [results, Try.results44, go_sem]) rfl ?_
    exact ⟨by rw [HT.out], (Fr.refl _ _).alloc _⟩
  · have ht : turn2 a b = (a, b) := by simp [turn2, h]
    have HT := Lib.hid ht
    clear ht
    have h' : decide (b < a) = false := by simp [h]
    go_enter Try.func44, Try.ntmps44
    go_wp2_with fail
    refine bodyPost_ret (v := .agg #[.int .i64 (a : Int), .int .i64 (b : Int)]) (by simp [results, Try.results44, go_sem]) rfl ?_
    exact ⟨by rw [HT.out], (Fr.refl _ _).alloc _⟩

theorem is_spec {Ae : Option Addr} {ce m v : Nat} (hv : v < n) : Calls Try.prog 36 #[.agg #[.int .i64 (n : Int), .slice Ae m ce], .int .i64 (v : Int)] w (fun e w' => e = .returned (.bool true) ∧ Fr No w w') := by
  have f1 : Fr No w (w.alloc (.cells #[.int .i64 (n : Int), .slice Ae m ce] 25)) := (Fr.refl _ _).alloc _
  have d1 : decide ((0 : Int) ≤ (v : Int)) = true := by simp
  go_enter Try.func36, Try.ntmps36
  go_wp2_with fail
  go_ret
  exact ⟨by simp [hv], f1⟩
end Gar

namespace Gar
open Go Go.RowKit Go.Proofs
set_option maxRecDepth 100000
set_option maxHeartbeats 1600000
variable {w : World} {n : Nat} {es : List (Nat × Nat)}

theorem right2_spec {Ae : Option Addr} {ce : Nat} (hG : Good n es) (hR : Rd w 2 Ae es.length (cellsOf es)) :
    Calls Try.prog 35 #[.agg #[.int .i64 (n : Int), .slice Ae es.length ce]] w (fun e w' => e = .returned (.bool true) ∧ Fr No w w') := by
  have hn := hG.n_le
  have hm := hG.m_le
  go_enter Try.func35, Try.ntmps35
  go_upto_region 3 with (fail)
  have f1 : Fr No w (w.alloc (.cells #[.int .i64 (n : Int), .slice Ae es.length ce] 25)) := (Fr.refl _ _).alloc _
  have cg := Cs.new w 25 #[.int .i64 (n : Int), .slice Ae es.length ce]
  have g0 := cg.cell 0
  have g1 := cg.cell 1
  generalize w.alloc (.cells #[.int .i64 (n : Int), .slice Ae es.length ce] 25) = w1 at f1 g0 g1 ⊢
  simp only [List.getElem?_toArray, List.getElem?_cons_zero, List.getElem?_cons_succ] at g0 g1
  clear cg
  generalize w.heap.size = bg at g0 g1 ⊢
  have hR1 := hR.fr f1 fun _ _ => id
  clear hR
  have HG := Lib.hid hG
  clear hG
  go_wp2_with fail
  go_loopg [3] es.length (RightRel w1 es.length)
  case atStart => exact ⟨0, rfl, by omega, by omega, Fr.refl _ _⟩
  case round =>
    obtain ⟨i, rfl, hi, hg, hfr⟩ := hrel
    have HGK := Lib.hid hg
    clear hg
    have q0 := hfr.cell g0 id
    have q1 := hfr.cell g1 id
    by_cases hlt : i < es.length
    · obtain ⟨be, oe, rfl, hce⟩ := (hR1.fr hfr fun _ _ => id).at_ (by rw [cellsOf_len]; omega)
      have HE := Lib.hid hce
      obtain ⟨k1, k2⟩ := cellsOf_get hlt
      have p1 := hce _ _ k1
      have p2 := hce _ _ k2
      obtain ⟨m1, m2⟩ := HG.out.mem _ (List.getElem_mem hlt)
      clear hce k1 k2
      rcases Nat.eq_zero_or_pos i with rfl | hpos
      · generalize es[0] = e at p1 p2 m1 m2
        simp only [iv, Nat.zero_mul, Nat.zero_add, Nat.add_zero] at p1 p2
        have hes : (0 : Int) < (es.length : Int) := by omega
        have v1 : decide (((e.1 : Nat) : Int) < 0) = false := by simp
        have v2 : decide (e.2 ≤ e.1) = false := by simp; omega
        have v3 : decide (n ≤ e.2) = false := by simp; omega
        rw [show ((0 : Nat) : Int) = 0 from rfl]
        go_upto_region 7 with (fail)
        have f2 : Fr No wr (wr.alloc (.cells #[.int .i64 (e.1 : Int), .int .i64 (e.2 : Int)] 56)) := (Fr.refl _ _).alloc _
        have c5 := Cs.new wr 56 #[.int .i64 (e.1 : Int), .int .i64 (e.2 : Int)]
        have r1 := c5.cell 0
        have r2 := c5.cell 1
        generalize wr.alloc (.cells #[.int .i64 (e.1 : Int), .int .i64 (e.2 : Int)] 56) = w2 at f2 r1 r2 ⊢
        generalize wr.heap.size = b5 at r1 r2 ⊢
        simp only [List.getElem?_toArray, List.getElem?_cons_zero, List.getElem?_cons_succ] at r1 r2
        have q0 := f2.cell q0 id
        have q1 := f2.cell q1 id
        clear p1 p2 m1 m2 c5
        go_upto_region 9 with (fail)
        go_quiet (fail)
        go_wp2_with fail
        go_roundg (es.length - 1)
        case measure => rw [HGK.out]; omega
        case rel => exact ⟨1, rfl, by omega, rfl, (hfr.step f2).drewN _⟩
      · obtain ⟨j, hj⟩ : ∃ j, j = i - 1 := ⟨_, rfl⟩
        have hlj : j < es.length := by omega
        obtain ⟨k1, k2⟩ := cellsOf_get hlj
        have s1 := HE.out _ _ k1
        have s2 := HE.out _ _ k2
        have hlex : lexLt es[j] es[i] := (List.pairwise_iff_getElem.1 HG.out.sorted) j i hlj hlt (by omega)
        have hcmp := lexB_true.2 hlex
        clear k1 k2 hlex
        generalize es[i] = e at p1 p2 m1 m2 hcmp
        generalize es[j] = d at s1 s2 hcmp
        simp only [iv] at p1 p2 s1 s2
        rw [← Nat.add_assoc] at p2 s2
        have hib : i < 9223372036854775807 := by omega
        have hsub : (i : Int) - 1 = (j : Int) := by omega
        have hwr : IntKind.i64.wrap (j : Int) = (j : Int) := by rw [IntKind.wrap_i64]; omega
        have hpi : decide (0 < i) = true := by simp; omega
        have hji : (j : Int) < (es.length : Int) := by omega
        have HJ := Lib.hid hj
        clear hj
        have hes : (i : Int) < (es.length : Int) := by omega
        have v1 : decide (((e.1 : Nat) : Int) < 0) = false := by simp
        have v2 : decide (e.2 ≤ e.1) = false := by simp; omega
        have v3 : decide (n ≤ e.2) = false := by simp; omega
        have HC := Lib.hid hcmp
        clear hcmp
        go_upto_region 7 with (fail)
        have f2 : Fr No wr (wr.alloc (.cells #[.int .i64 (e.1 : Int), .int .i64 (e.2 : Int)] 56)) := (Fr.refl _ _).alloc _
        have c5 := Cs.new wr 56 #[.int .i64 (e.1 : Int), .int .i64 (e.2 : Int)]
        have r1 := c5.cell 0
        have r2 := c5.cell 1
        generalize wr.alloc (.cells #[.int .i64 (e.1 : Int), .int .i64 (e.2 : Int)] 56) = w2 at f2 r1 r2 ⊢
        generalize wr.heap.size = b5 at r1 r2 ⊢
        simp only [List.getElem?_toArray, List.getElem?_cons_zero, List.getElem?_cons_succ] at r1 r2
        have q0 := f2.cell q0 id
        have q1 := f2.cell q1 id
        have s1 := f2.cell s1 id
        have s2 := f2.cell s2 id
        clear c5 p1 p2 m1 m2
        go_upto_region 9 with (fail)
        clear v1 v2 v3
        go_region_held3 (fun w' => w'.cell? ⟨b5, 0, none⟩ = some (.int .i64 (e.1 : Int)) ∧ w'.cell? ⟨b5, 1, none⟩ = some (.int .i64 (e.2 : Int)) ∧ w'.cell? ⟨bg, 1, none⟩ = some (.slice (some ⟨be, oe, none⟩) es.length ce) ∧
          w'.cell? ⟨be, oe + j * 2, none⟩ = some (.int .i64 (d.1 : Int)) ∧ w'.cell? ⟨be, oe + j * 2 + 1, none⟩ = some (.int .i64 (d.2 : Int))) (first | (simp [*]; done) | (refine ⟨?_, ?_, ?_, ?_, ?_⟩ <;> exact Fr.cell (by assumption) (by first | assumption | (simp [*]; done)) id)) ((go_at_call 57; refine (ahead_spec (a := d) (b := e)).mono ?_; rintro e' w' ⟨rfl, hfrc⟩; rw [HC.out]))
        go_wp2_with fail
        go_roundg (es.length - (i + 1))
        case measure => rw [HGK.out]; omega
        case rel => exact ⟨i + 1, rfl, by omega, rfl, (hfr.step f2).step ((Fr.refl No w2).drew.step hfrc)⟩
    · have : i = es.length := by omega
      subst this
      go_wp2_with fail
      go_ret
      exact ⟨rfl, f1.step hfr⟩
end Gar

namespace Gar
open Go Go.RowKit Go.Proofs
set_option maxRecDepth 100000
set_option maxHeartbeats 1600000
variable {w : World} {n : Nat} {es : List (Nat × Nat)}

def IndexPost (w : World) (es : List (Nat × Nat)) (t : Nat × Nat) (e : Ending) (w' : World) : Prop :=
  Fr No w w' ∧ ((∃ i : Nat, es[i]? = some t ∧ e = .returned (.int .i64 (i : Int))) ∨ (t ∉ es ∧ e = .returned (.int .i64 (-1))))

def IndexRel (w1 : World) (es : List (Nat × Nat)) (t : Nat × Nat) (g : Nat) (x : Value) (wr : World) : Prop :=
  ∃ i : Nat, x = .int .i64 (i : Int) ∧ i ≤ es.length ∧ g = es.length - i ∧ Fr No w1 wr ∧ ∀ j, j < i → es[j]? ≠ some t

theorem index2_spec {Ae : Option Addr} {ce a b : Nat} {t : Nat × Nat} (ht : turn2 a b = t) (hG : Good n es) (hR : Rd w 2 Ae es.length (cellsOf es)) :
    Calls Try.prog 61 #[.agg #[.int .i64 (n : Int), .slice Ae es.length ce], .int .i64 (a : Int), .int .i64 (b : Int)] w (IndexPost w es t) := by
  have HT := Lib.hid ht
  clear ht
  have hn := hG.n_le
  have hm := hG.m_le
  have f1 : Fr No w (w.alloc (.cells #[.int .i64 (n : Int), .slice Ae es.length ce] 25)) := (Fr.refl _ _).alloc _
  have cg := Cs.new w 25 #[.int .i64 (n : Int), .slice Ae es.length ce]
  have g1 := cg.cell 1
  simp only [List.getElem?_toArray, List.getElem?_cons_zero, List.getElem?_cons_succ] at g1
  have hR1 := hR.fr f1 fun _ _ => id
  clear cg hR
  have HG := Lib.hid hG
  have HR := Lib.hid hR1
  have HG1 := Lib.hid g1
  clear hG hR1 g1
  go_enter Try.func61, Try.ntmps61
  go_wp2_with fail
  refine (right2_spec HG.out HR.out).mono ?_
  rintro e w2 ⟨rfl, hfr2⟩
  go_wp2_with fail
  refine (turned2_spec (a := a) (b := b)).mono ?_
  rintro e w3 ⟨rfl, hfr3⟩
  rw [HT.out]
  have hfr4 := hfr2.step hfr3
  have g1 := hfr4.cell HG1.out id
  generalize w.heap.size = bg at g1 ⊢
  have hR3 := HR.out.fr hfr4 fun _ _ => id
  have f3 := f1.step hfr4
  clear HR HG1 hfr2 hfr3 hfr4 f1
  go_upto_region 4 with (fail)
  have c7 := Cs.new w3 56 #[.int .i64 (t.1 : Int), .int .i64 (t.2 : Int)]
  have r1 := c7.cell 0
  have r2 := c7.cell 1
  simp only [List.getElem?_toArray, List.getElem?_cons_zero, List.getElem?_cons_succ] at r1 r2
  have g1 := cell_alloc g1 (.cells #[.int .i64 (t.1 : Int), .int .i64 (t.2 : Int)] 56)
  have f4 := f3.alloc (.cells #[.int .i64 (t.1 : Int), .int .i64 (t.2 : Int)] 56)
  have hR4 := hR3.fr ((Fr.refl No _).alloc (.cells #[.int .i64 (t.1 : Int), .int .i64 (t.2 : Int)] 56)) fun _ _ => id
  generalize w3.alloc (.cells #[.int .i64 (t.1 : Int), .int .i64 (t.2 : Int)] 56) = w4 at r1 r2 g1 f4 hR4 ⊢
  generalize w3.heap.size = b7 at r1 r2 ⊢
  clear c7 f3 hR3
  go_wp2_with fail
  go_loopg [8] es.length (IndexRel w4 es t)
  case atStart => exact ⟨0, rfl, by omega, by omega, Fr.refl _ _, by omega⟩
  case round =>
    obtain ⟨i, rfl, hi, hg, hfr, hall⟩ := hrel
    have HGK := Lib.hid hg
    have HA := Lib.hid hall
    clear hg hall
    have q1 := hfr.cell g1 id
    by_cases hlt : i < es.length
    · obtain ⟨be, oe, rfl, hce⟩ := (hR4.fr hfr fun _ _ => id).at_ (by rw [cellsOf_len]; omega)
      obtain ⟨k1, k2⟩ := cellsOf_get hlt
      have p1 := hce _ _ k1
      have p2 := hce _ _ k2
      have hget : es[i]? = some es[i] := List.getElem?_eq_getElem hlt
      have HGET := Lib.hid hget
      clear hce k1 k2 hget
      generalize es[i] = e at p1 p2 HGET
      simp only [iv] at p1 p2
      rw [← Nat.add_assoc] at p2
      have s1 := hfr.cell r1 id
      have s2 := hfr.cell r2 id
      have hes : (i : Int) < (es.length : Int) := by omega
      by_cases he : e = t
      · subst he
        go_wp2_with fail
        go_quiet (fail)
        go_wp2_with fail
        go_ret
        exact ⟨(f4.step hfr).drewN _, .inl ⟨i, HGET.out, rfl⟩⟩
      · by_cases h1 : e.1 = t.1
        · have hne1 : ((e.1 : Int) == (t.1 : Int)) = true := by simp [h1]
          have hne2 : ((e.2 : Int) == (t.2 : Int)) = false := by simp; intro h2; exact he (Prod.ext h1 (by omega))
          clear h1
          have HE := Lib.hid he
          clear he
          go_wp2_with fail
          go_quiet (fail)
          go_wp2_with fail
          go_roundg (es.length - (i + 1))
          case measure => rw [HGK.out]; omega
          case rel =>
            refine ⟨i + 1, rfl, by omega, rfl, hfr.drewN _, fun j hj => ?_⟩
            rcases Nat.lt_or_ge j i with h | h
            · exact HA.out j h
            · have : j = i := by omega
              subst this
              rw [HGET.out]; intro h; injection h with h; exact HE.out h
        · have hne1 : ((e.1 : Int) == (t.1 : Int)) = false := by simp; omega
          clear h1
          have HE := Lib.hid he
          clear he
          go_wp2_with fail
          go_quiet (fail)
          go_wp2_with fail
          go_roundg (es.length - (i + 1))
          case measure => rw [HGK.out]; omega
          case rel =>
            refine ⟨i + 1, rfl, by omega, rfl, hfr.drewN _, fun j hj => ?_⟩
            rcases Nat.lt_or_ge j i with h | h
            · exact HA.out j h
            · have : j = i := by omega
              subst this
              rw [HGET.out]; intro h; injection h with h; exact HE.out h
    · have : i = es.length := by omega
      subst this
      go_wp2_with fail
      go_ret
      refine ⟨f4.step hfr, .inr ⟨fun h => ?_, rfl⟩⟩
      obtain ⟨j, hj, e⟩ := List.getElem_of_mem h
      exact HA.out j hj (by rw [List.getElem?_eq_getElem hj, e])

def HasPost (w : World) (es : List (Nat × Nat)) (t : Nat × Nat) (e : Ending) (w' : World) : Prop := Fr No w w' ∧ e = .returned (.bool (decide (t ∈ es)))
theorem has_spec {Ae : Option Addr} {ce a b : Nat} (hG : Good n es) (hR : Rd w 2 Ae es.length (cellsOf es)) :
    Calls Try.prog 42 #[.agg #[.int .i64 (n : Int), .slice Ae es.length ce], .int .i64 (a : Int), .int .i64 (b : Int)] w (HasPost w es (turn2 a b)) := by
  have f1 : Fr No w (w.alloc (.cells #[.int .i64 (n : Int), .slice Ae es.length ce] 25)) := (Fr.refl _ _).alloc _
  have hR1 := hR.fr f1 fun _ _ => id
  obtain ⟨t, ht⟩ : ∃ t, turn2 a b = t := ⟨_, rfl⟩
  rw [ht]
  have HG := Lib.hid hG
  have HR := Lib.hid hR1
  have HT := Lib.hid ht
  clear hG hR1 hR ht
  go_enter Try.func42, Try.ntmps42
  go_wp2_with fail
  refine (index2_spec HT.out HG.out HR.out).mono ?_
  rintro e w2 ⟨hfr2, ⟨i, hi, rfl⟩ | ⟨hni, rfl⟩⟩
  · have hd : decide (t ∈ es) = true := by simp; exact List.mem_of_getElem? hi
    have HD := Lib.hid hd
    clear hi hd
    go_wp2_with fail
    go_ret
    exact ⟨f1.step hfr2, by rw [HD.out]; rfl⟩
  · have hd : decide (t ∈ es) = false := by simp [hni]
    have HD := Lib.hid hd
    clear hni hd
    go_wp2_with fail
    go_ret
    exact ⟨f1.step hfr2, by rw [HD.out]; rfl⟩
end Gar

namespace Gar

theorem lexLt_trans {a b c : Nat × Nat} (h : lexLt a b) (k : lexLt b c) : lexLt a c := by unfold lexLt at *; omega
theorem lexLt_total {a b : Nat × Nat} (h : ¬ lexLt a b) (hne : a ≠ b) : lexLt b a := by
  unfold lexLt at *
  by_cases h1 : a.1 = b.1
  · have : a.2 ≠ b.2 := fun e => hne (Prod.ext h1 e)
    omega
  · omega

theorem Good.put {n : Nat} {es : List (Nat × Nat)} (h : Good n es) {t : Nat × Nat} (ht : t.1 < t.2 ∧ t.2 < n) (hni : t ∉ es) (hl : es.length < 65536) {k : Nat} (hk : k ≤ es.length)
    (h1 : ∀ j (hj : j < es.length), k ≤ j → lexLt t es[j]) (h2 : ∀ (hk' : k - 1 < es.length), 0 < k → ¬ lexLt t es[k - 1]) : Good n (es.take k ++ t :: es.drop k) := by
  have hs := h.sorted
  have hs' := List.pairwise_iff_getElem.1 hs
  refine ⟨h.n_le, ?_, fun e he => ?_, ?_⟩
  · simp only [List.length_append, List.length_take, List.length_cons, List.length_drop]; omega
  · rcases List.mem_append.1 he with he | he
    · exact h.mem e (List.mem_of_mem_take he)
    · rcases List.mem_cons.1 he with rfl | he
      · exact ht
      · exact h.mem e (List.mem_of_mem_drop he)
  · rw [List.pairwise_append]
    refine ⟨hs.take, ?_, ?_⟩
    · rw [List.pairwise_cons]
      refine ⟨fun e he => ?_, hs.drop⟩
      obtain ⟨j, hj, rfl⟩ := List.getElem_of_mem he
      rw [List.getElem_drop]
      exact h1 _ _ (by omega)
    · intro a ha b hb
      obtain ⟨i, hi, rfl⟩ := List.getElem_of_mem ha
      rw [List.length_take] at hi
      rw [List.getElem_take]
      have hat : lexLt (es[i]'(by omega)) t := by
        have hk0 : 0 < k := by omega
        have hlast : lexLt (es[k - 1]'(by omega)) t := lexLt_total (h2 (by omega) hk0) fun e => hni (by rw [e]; exact List.getElem_mem _)
        rcases Nat.lt_or_ge i (k - 1) with hlt | hge
        · exact lexLt_trans (hs' i (k - 1) (by omega) (by omega) hlt) hlast
        · have : i = k - 1 := by omega
          subst this; exact hlast
      rcases List.mem_cons.1 hb with rfl | hb
      · exact hat
      · obtain ⟨j, hj, rfl⟩ := List.getElem_of_mem hb
        rw [List.getElem_drop]
        exact lexLt_trans hat (h1 _ _ (by omega))

theorem cellsOf_append (a b : List (Nat × Nat)) : cellsOf (a ++ b) = cellsOf a ++ cellsOf b := by simp [cellsOf]
theorem cellsOf_take (es : List (Nat × Nat)) (k : Nat) : cellsOf (es.take k) = (cellsOf es).take (k * 2) := by
  induction es generalizing k with
  | nil => simp [cellsOf]
  | cons e es ih =>
    cases k with
    | zero => simp [cellsOf]
    | succ k => simp only [List.take_succ_cons]; rw [show (k + 1) * 2 = k * 2 + 1 + 1 from by omega]; simp only [cellsOf, List.flatMap_cons, List.cons_append, List.nil_append, List.take_succ_cons] at ih ⊢; rw [ih]
theorem cellsOf_drop (es : List (Nat × Nat)) (k : Nat) : cellsOf (es.drop k) = (cellsOf es).drop (k * 2) := by
  induction es generalizing k with
  | nil => simp [cellsOf]
  | cons e es ih =>
    cases k with
    | zero => simp [cellsOf]
    | succ k => simp only [List.drop_succ_cons]; rw [show (k + 1) * 2 = k * 2 + 1 + 1 from by omega]; simp only [cellsOf, List.flatMap_cons, List.cons_append, List.nil_append, List.drop_succ_cons] at ih ⊢; rw [ih]
theorem cellsOf_one {es : List (Nat × Nat)} : ∀ u ∈ cellsOf es, ∃ x : Nat, u = iv x := by
  intro u hu
  simp only [cellsOf, List.mem_flatMap] at hu
  obtain ⟨e, _, h⟩ := hu
  simp at h
  rcases h with rfl | rfl <;> exact ⟨_, rfl⟩
end Gar

namespace Gar
open Go Go.RowKit Go.Proofs
set_option maxRecDepth 100000
set_option maxHeartbeats 1600000
variable {w : World} {n : Nat} {es : List (Nat × Nat)}

theorem info_edge : (Try.prog.info? 56).map (fun i => (i.zero, i.size, i.bytes)) = some (some (.agg #[.int .i64 0, .int .i64 0]), 2, 16) := by kernel_rfl

def PutPost (w : World) (es : List (Nat × Nat)) (t : Nat × Nat) (e : Ending) (w' : World) : Prop :=
  ∃ k A c, k ≤ es.length ∧ (∀ j (hj : j < es.length), k ≤ j → lexLt t es[j]) ∧ (∀ (hk' : k - 1 < es.length), 0 < k → ¬ lexLt t es[k - 1]) ∧ e = .returned (.slice A (es.length + 1) c) ∧
    Ow w' 2 A (es.length + 1) c (cellsOf (es.take k ++ t :: es.drop k)) ∧ Fr No w w' ∧ ∀ x, InA A x → w.heap.size ≤ x

def PutRel (w1 : World) (es : List (Nat × Nat)) (t : Nat × Nat) (g : Nat) (x : Value) (wr : World) : Prop :=
  ∃ k : Nat, x = .int .i64 (k : Int) ∧ k ≤ es.length ∧ g = k ∧ Fr No w1 wr ∧ ∀ j (hj : j < es.length), k ≤ j → lexLt t es[j]

theorem Rd.take {w : World} {sz n k : Nat} {A : Option Addr} {xs : List Value} (h : Rd w sz A n xs) (hk : k ≤ n) : Rd w sz A k (xs.take (k * sz)) := by
  have hl := h.len
  have hle : k * sz ≤ n * sz := Nat.mul_le_mul_right _ hk
  refine ⟨by rw [List.length_take]; omega, fun hp => ?_⟩
  rw [List.length_take] at hp
  obtain ⟨b, o, rfl, hc⟩ := h.at_ (by omega)
  exact ⟨b, o, rfl, fun i u hu => hc i u (by rw [List.getElem?_take] at hu; split at hu; exact hu; cases hu)⟩
theorem Rd.drop {w : World} {sz n k b o : Nat} {xs : List Value} (h : Rd w sz (some ⟨b, o, none⟩) n xs) (hk : k ≤ n) : Rd w sz (some ⟨b, o + k * sz, none⟩) (n - k) (xs.drop (k * sz)) := by
  have hl := h.len
  refine ⟨by rw [List.length_drop, hl, Nat.sub_mul], fun hp => ?_⟩
  rw [List.length_drop] at hp
  obtain ⟨b', o', e, hc⟩ := h.at_ (by omega)
  injection e with e
  injection e with e1 e2
  subst e1 e2
  exact ⟨b, _, rfl, fun i u hu => by rw [Nat.add_assoc]; exact hc _ u (by rw [List.getElem?_drop] at hu; exact hu)⟩
theorem Rd.new2 (w : World) (T : TypeId) (x y : Value) : Rd (w.alloc (.cells #[x, y] T)) 2 (some ⟨w.heap.size, 0, none⟩) 1 [x, y] :=
  ⟨rfl, fun _ => ⟨_, 0, rfl, fun i u hu => by
    have c := Cs.new w T #[x, y]
    rw [Nat.zero_add, c.cell]
    simpa using hu⟩⟩
theorem one_iv2 {x y : Nat} : ∀ u ∈ [Value.int .i64 (x : Int), Value.int .i64 (y : Int)], u.oneCell' = true := by
  intro u hu; simp at hu; rcases hu with rfl | rfl <;> rfl
theorem one_cells {es : List (Nat × Nat)} : ∀ u ∈ cellsOf es, u.oneCell' = true := by
  intro u hu; obtain ⟨x, rfl⟩ := cellsOf_one u hu; rfl

theorem put_some_spec {be oe ce : Nat} {t : Nat × Nat} (hl : es.length ≤ 65536) (hO : Ow w 2 (some ⟨be, oe, none⟩) es.length ce (cellsOf es)) :
    Calls Try.prog 43 #[.slice (some ⟨be, oe, none⟩) es.length ce, .agg #[.int .i64 (t.1 : Int), .int .i64 (t.2 : Int)]] w (PutPost w es t) := by
  obtain ⟨i0, hi, hz0, hz1, hz2⟩ := info_parts info_edge
  have f1 : Fr No w (w.alloc (.cells #[.int .i64 (t.1 : Int), .int .i64 (t.2 : Int)] 56)) := (Fr.refl _ _).alloc _
  have cg := Cs.new w 56 #[.int .i64 (t.1 : Int), .int .i64 (t.2 : Int)]
  have g0 := cg.cell 0
  have g1 := cg.cell 1
  simp only [List.getElem?_toArray, List.getElem?_cons_zero, List.getElem?_cons_succ] at g0 g1
  have hO1 := hO.fr f1 fun _ _ => id
  have HO := Lib.hid hO1
  have hce := hO.le
  have hcm := hO.max
  clear cg hO hO1
  go_enter Try.func43, Try.ntmps43
  go_upto_region 1 with (fail)
  generalize w.alloc (.cells #[.int .i64 (t.1 : Int), .int .i64 (t.2 : Int)] 56) = w1 at f1 g0 g1 HO ⊢
  generalize w.heap.size = b3 at g0 g1 ⊢
  go_wp2_with fail
  go_loopg [5] es.length (PutRel w1 es t)
  case atStart => exact ⟨es.length, rfl, by omega, rfl, Fr.refl _ _, fun j hj h => by omega⟩
  case round =>
    obtain ⟨k, rfl, hk, hg, hfr, hall⟩ := hrel
    have HGK := Lib.hid hg
    have HA := Lib.hid hall
    clear hg hall
    have q0 := hfr.cell g0 id
    have q1 := hfr.cell g1 id
    rcases Nat.eq_zero_or_pos k with rfl | hk0
    · rw [show ((0 : Nat) : Int) = 0 from rfl]
      go_wp2_with fail
      go_quiet (fail)
      go_wp2_with fail
      have hfq := hfr.drewN nq
      have q0 := hfq.cell g0 id
      have q1 := hfq.cell g1 id
      generalize wr.drewN nq = wq at hfq q0 q1 ⊢
      clear hfr g0 g1
      have hT : Rd wq 2 (some ⟨be, oe, none⟩) 0 (cellsOf (es.take 0)) := by simpa [cellsOf] using Rd.nil_ wq 2 (some ⟨be, oe, none⟩)
      have hD : Rd wq 2 (some ⟨be, oe, none⟩) (es.length) (cellsOf (es.drop 0)) := by simpa using HO.out.rd.fr hfq fun _ _ => id
      have hA1 : ∀ x, ¬ InA (none : Option Addr) x := fun x ⟨ad, h, _⟩ => by cases h
      have hb3 : b3 < wq.heap.size := World.block_lt_of_cell? _ _ q0
      have hL1 : 0 + 1 + (es.length) = es.length + 1 := by omega
      go_region_held3 (fun w' => w'.cell? ⟨b3, 0, none⟩ = some (.int .i64 (t.1 : Int)) ∧ w'.cell? ⟨b3, 1, none⟩ = some (.int .i64 (t.2 : Int)))
        (first | (simp [*]; done) | (exact ⟨cell_alloc (by assumption) _, cell_alloc (by assumption) _⟩))
        (first
          | (refine step_append_to rfl (.const (.slice none 0 0)) (.tmp 23) 23 rfl 56 i0 (.agg #[.int .i64 0, .int .i64 0]) 2 16 Try.underlying23 hi hz0 hz1 hz2 rfl (by decide) (0) (cellsOf (es.take 0)) rfl (Ow.nil_ _ _) rfl (by first | exact hT.fr ((Fr.refl No _).drew) (fun _ _ => id) | exact hT.fr (((Fr.refl No _).alloc _).drew) fun _ _ => id) one_cells (by omega) rfl (by omega) (by simp only [maxLen]; omega) ?_; intro A5 c5 w5 hO5 hfr5 hA5; have s1 := hfr5.cell (by first | exact cell_drew q0 | exact cell_drew (cell_alloc q0 _)) (hA1 _); have s2 := hfr5.cell (by first | exact cell_drew q1 | exact cell_drew (cell_alloc q1 _)) (hA1 _); have n5' : ∀ x, InA A5 x → wq.heap.size ≤ x := fun x h => (hA5 x h).elim (fun h => absurd h (hA1 x)) (fun h => by simp at h; omega); have n5 : ¬ InA A5 b3 := (fun h => by have := n5' _ h; omega); have hq5 : Fr No wq w5 := (by first | exact ((Fr.refl No wq).drew).trans hfr5 (fun x _ h => hA1 x h) | exact (((Fr.refl No wq).alloc _).drew).trans hfr5 (fun x _ h => hA1 x h)))
          | (refine step_append_to rfl (.tmp 24) (.tmp 26) 23 rfl 56 i0 (.agg #[.int .i64 0, .int .i64 0]) 2 16 Try.underlying23 hi hz0 hz1 hz2 rfl (by decide) (0 + 1) (cellsOf (es.take 0) ++ [.int .i64 (t.1 : Int), .int .i64 (t.2 : Int)]) rfl (by first | exact hO5 | exact hO5.fr ((Fr.refl No _).alloc _) fun _ _ => id) rfl (by first | exact Rd.new2 _ _ _ _ | exact ((Rd.new2 _ _ _ _).fr ((Fr.refl No _).drew) fun _ _ => id).fr hfr5 fun b _ => hA1 b) one_iv2 rfl rfl (by omega) (by simp only [maxLen]; omega) ?_; intro A6 c6 w6 hO6 hfr6 hA6; have s1 := hfr6.cell (by first | exact s1 | exact cell_alloc s1 _) n5; have s2 := hfr6.cell (by first | exact s2 | exact cell_alloc s2 _) n5; have hq6 : Fr No wq w6 := (by first | exact hq5.new hfr6 n5' | exact (hq5.alloc _).new hfr6 n5'); have n6 : ∀ x, InA A6 x → wq.heap.size ≤ x := fun x h => (hA6 x h).elim (n5' x) (fun h => by have := hq5.size; (try simp at h); omega); have n6' : ¬ InA A6 b3 := (fun h => by have := n6 _ h; omega))
          | (refine step_append_to rfl (.tmp 27) (.tmp 30) 23 rfl 56 i0 (.agg #[.int .i64 0, .int .i64 0]) 2 16 Try.underlying23 hi hz0 hz1 hz2 rfl (by decide) (es.length + 1) (cellsOf (es.take 0 ++ t :: es.drop 0)) rfl hO6 rfl (hD.fr hq6 fun _ _ => id) one_cells (by omega) (by rw [cellsOf_append, List.append_assoc]; rfl) (by omega) (by simp only [maxLen]; omega) ?_; intro A7 c7 w7 hO7 hfr7 hA7; have s1 := hfr7.cell s1 n6'; have s2 := hfr7.cell s2 n6'))
      all_goals
        have hq7 : Fr No wq w7 := hq6.new hfr7 n6
        have n7 : ∀ x, InA A7 x → w.heap.size ≤ x := fun x h => (hA7 x h).elim (fun h => Nat.le_trans (f1.step hfq).size (n6 x h)) (fun h => Nat.le_trans (f1.step (hfq.step hq6)).size h)
        have hfin := f1.step (hfq.step hq7)
        clear s1 s2 hO5 hO6 hfr5 hfr6 hfr7 hA5 hA6 hA7 n5 n5' n6 n6' hq5 hq6 hq7 hT hD
        go_wp2_with fail
        go_ret
        exact ⟨0, A7, c7, by omega, HA.out, (fun _ h => absurd h (by omega)), rfl, hO7, hfin, n7⟩
    · obtain ⟨j, hj⟩ : ∃ j, j = k - 1 := ⟨_, rfl⟩
      have hlj : j < es.length := by omega
      obtain ⟨_, _, hee, hce2⟩ := (HO.out.rd.fr hfr fun _ _ => id).at_ (by rw [cellsOf_len]; omega)
      injection hee with hee; injection hee with e1 e2; subst e1 e2
      obtain ⟨k1, k2⟩ := cellsOf_get hlj
      have s1 := hce2 _ _ k1
      have s2 := hce2 _ _ k2
      have hget : ∀ (h : k - 1 < es.length), es[k - 1] = es[j] := fun h => by subst hj; rfl
      have HGET := Lib.hid hget
      clear hce2 k1 k2 hget
      generalize es[j] = d at s1 s2 HGET
      simp only [iv] at s1 s2
      rw [← Nat.add_assoc] at s2
      have hkb : k < 9223372036854775807 := by omega
      have hsub : (k : Int) - 1 = (j : Int) := by omega
      have hwr : IntKind.i64.wrap (j : Int) = (j : Int) := by rw [IntKind.wrap_i64]; omega
      have hpi : decide (0 < k) = true := by simp; omega
      have hji : (j : Int) < (es.length : Int) := by omega
      have HJ := Lib.hid hj
      clear hj
      by_cases hc : lexB t d = true
      · have HC := Lib.hid hc
        clear hc
        go_wp2_with fail
        go_region_held3 (fun w' => w'.cell? ⟨b3, 0, none⟩ = some (.int .i64 (t.1 : Int)) ∧ w'.cell? ⟨b3, 1, none⟩ = some (.int .i64 (t.2 : Int)) ∧
          w'.cell? ⟨be, oe + j * 2, none⟩ = some (.int .i64 (d.1 : Int)) ∧ w'.cell? ⟨be, oe + j * 2 + 1, none⟩ = some (.int .i64 (d.2 : Int))) (first | (simp [*]; done) | (refine ⟨?_, ?_, ?_, ?_⟩ <;> exact Fr.cell (by assumption) (by first | assumption | (simp [*]; done)) id)) ((go_at_call 57; refine (ahead_spec (a := t) (b := d)).mono ?_; rintro e' w' ⟨rfl, hfrc⟩; rw [HC.out]))
        go_wp2_with fail
        go_roundg j
        case measure => rw [HGK.out]; have := HJ.out; omega
        case rel =>
          refine ⟨j, rfl, by omega, rfl, hfr.step ((Fr.refl No wr).drew.step hfrc), fun i hi h => ?_⟩
          have hj := HJ.out
          rcases Nat.lt_or_ge i k with h1 | h1
          · have : i = k - 1 := by omega
            subst this
            rw [HGET.out hi]; exact lexB_true.1 HC.out
          · exact HA.out i hi h1
      · have hc' : lexB t d = false := by simpa using hc
        have HC := Lib.hid hc'
        clear hc hc'
        go_wp2_with fail
        go_region_held3 (fun w' => w'.cell? ⟨b3, 0, none⟩ = some (.int .i64 (t.1 : Int)) ∧ w'.cell? ⟨b3, 1, none⟩ = some (.int .i64 (t.2 : Int)) ∧
          w'.cell? ⟨be, oe + j * 2, none⟩ = some (.int .i64 (d.1 : Int)) ∧ w'.cell? ⟨be, oe + j * 2 + 1, none⟩ = some (.int .i64 (d.2 : Int))) (first | (simp [*]; done) | (refine ⟨?_, ?_, ?_, ?_⟩ <;> exact Fr.cell (by assumption) (by first | assumption | (simp [*]; done)) id)) ((go_at_call 57; refine (ahead_spec (a := t) (b := d)).mono ?_; rintro e' wq ⟨rfl, hfrc⟩; rw [HC.out]))
        go_wp2_with fail
        have hfq : Fr No w1 wq := hfr.step ((Fr.refl No wr).drew.step hfrc)
        have q0 := hfq.cell g0 id
        have q1 := hfq.cell g1 id
        have hkl : (k : Int) ≤ (es.length : Int) := by omega
        have hkc : (k : Int) ≤ (ce : Int) := by omega
        clear hfr hfrc g0 g1 s1 s2 hsub hwr hpi hji
        by_cases hck : ce = k
        · have hlk : k = es.length := by omega
          subst hlk
          subst hck
          have hT : Rd wq 2 (some ⟨be, oe, none⟩) es.length (cellsOf (es.take es.length)) := by rw [cellsOf_take]; exact (HO.out.rd.fr hfq fun _ _ => id).take hk
          have hD : Rd wq 2 (some ⟨be, oe, none⟩) (0) (cellsOf (es.drop es.length)) := by rw [show es.drop es.length = [] from List.drop_eq_nil_of_le (by omega)]; exact Rd.nil_ _ _ _
          have hA1 : ∀ x, ¬ InA (none : Option Addr) x := fun x ⟨ad, h, _⟩ => by cases h
          have hb3 : b3 < wq.heap.size := World.block_lt_of_cell? _ _ q0
          have hL1 : es.length + 1 + (0) = es.length + 1 := by omega
          go_region_held3 (fun w' => w'.cell? ⟨b3, 0, none⟩ = some (.int .i64 (t.1 : Int)) ∧ w'.cell? ⟨b3, 1, none⟩ = some (.int .i64 (t.2 : Int)))
            (first | (simp [*]; done) | (exact ⟨cell_alloc (by assumption) _, cell_alloc (by assumption) _⟩))
            (first
              | (refine step_append_to rfl (.const (.slice none 0 0)) (.tmp 23) 23 rfl 56 i0 (.agg #[.int .i64 0, .int .i64 0]) 2 16 Try.underlying23 hi hz0 hz1 hz2 rfl (by decide) (es.length) (cellsOf (es.take es.length)) rfl (Ow.nil_ _ _) rfl (by first | exact hT.fr ((Fr.refl No _).drew) (fun _ _ => id) | exact hT.fr (((Fr.refl No _).alloc _).drew) fun _ _ => id) one_cells (by omega) rfl (by omega) (by simp only [maxLen]; omega) ?_; intro A5 c5 w5 hO5 hfr5 hA5; have s1 := hfr5.cell (by first | exact cell_drew q0 | exact cell_drew (cell_alloc q0 _)) (hA1 _); have s2 := hfr5.cell (by first | exact cell_drew q1 | exact cell_drew (cell_alloc q1 _)) (hA1 _); have n5' : ∀ x, InA A5 x → wq.heap.size ≤ x := fun x h => (hA5 x h).elim (fun h => absurd h (hA1 x)) (fun h => by simp at h; omega); have n5 : ¬ InA A5 b3 := (fun h => by have := n5' _ h; omega); have hq5 : Fr No wq w5 := (by first | exact ((Fr.refl No wq).drew).trans hfr5 (fun x _ h => hA1 x h) | exact (((Fr.refl No wq).alloc _).drew).trans hfr5 (fun x _ h => hA1 x h)))
              | (refine step_append_to rfl (.tmp 24) (.tmp 26) 23 rfl 56 i0 (.agg #[.int .i64 0, .int .i64 0]) 2 16 Try.underlying23 hi hz0 hz1 hz2 rfl (by decide) (es.length + 1) (cellsOf (es.take es.length) ++ [.int .i64 (t.1 : Int), .int .i64 (t.2 : Int)]) rfl (by first | exact hO5 | exact hO5.fr ((Fr.refl No _).alloc _) fun _ _ => id) rfl (by first | exact Rd.new2 _ _ _ _ | exact ((Rd.new2 _ _ _ _).fr ((Fr.refl No _).drew) fun _ _ => id).fr hfr5 fun b _ => hA1 b) one_iv2 rfl rfl (by omega) (by simp only [maxLen]; omega) ?_; intro A6 c6 w6 hO6 hfr6 hA6; have s1 := hfr6.cell (by first | exact s1 | exact cell_alloc s1 _) n5; have s2 := hfr6.cell (by first | exact s2 | exact cell_alloc s2 _) n5; have hq6 : Fr No wq w6 := (by first | exact hq5.new hfr6 n5' | exact (hq5.alloc _).new hfr6 n5'); have n6 : ∀ x, InA A6 x → wq.heap.size ≤ x := fun x h => (hA6 x h).elim (n5' x) (fun h => by have := hq5.size; (try simp at h); omega); have n6' : ¬ InA A6 b3 := (fun h => by have := n6 _ h; omega))
              | (refine step_append_to rfl (.tmp 27) (.tmp 30) 23 rfl 56 i0 (.agg #[.int .i64 0, .int .i64 0]) 2 16 Try.underlying23 hi hz0 hz1 hz2 rfl (by decide) (es.length + 1) (cellsOf (es.take es.length ++ t :: es.drop es.length)) rfl hO6 rfl (hD.fr hq6 fun _ _ => id) one_cells (by omega) (by rw [cellsOf_append, List.append_assoc]; rfl) (by omega) (by simp only [maxLen]; omega) ?_; intro A7 c7 w7 hO7 hfr7 hA7; have s1 := hfr7.cell s1 n6'; have s2 := hfr7.cell s2 n6'))
          all_goals
            have hq7 : Fr No wq w7 := hq6.new hfr7 n6
            have n7 : ∀ x, InA A7 x → w.heap.size ≤ x := fun x h => (hA7 x h).elim (fun h => Nat.le_trans (f1.step hfq).size (n6 x h)) (fun h => Nat.le_trans (f1.step (hfq.step hq6)).size h)
            have hfin := f1.step (hfq.step hq7)
            clear s1 s2 hO5 hO6 hfr5 hfr6 hfr7 hA5 hA6 hA7 n5 n5' n6 n6' hq5 hq6 hq7 hT hD
            go_wp2_with fail
            go_ret
            exact ⟨es.length, A7, c7, by omega, HA.out, (fun h _ hlt => by rw [HGET.out h, ← lexB_true, HC.out] at hlt; cases hlt), rfl, hO7, hfin, n7⟩
        · have hck' : ¬ k = ce := Ne.symm hck
          have hT : Rd wq 2 (some ⟨be, oe, none⟩) k (cellsOf (es.take k)) := by rw [cellsOf_take]; exact (HO.out.rd.fr hfq fun _ _ => id).take hk
          have hD : Rd wq 2 (some ⟨be, oe + k * 2, none⟩) (es.length - k) (cellsOf (es.drop k)) := by rw [cellsOf_drop]; exact (HO.out.rd.fr hfq fun _ _ => id).drop hk
          have hA1 : ∀ x, ¬ InA (none : Option Addr) x := fun x ⟨ad, h, _⟩ => by cases h
          have hb3 : b3 < wq.heap.size := World.block_lt_of_cell? _ _ q0
          have hL1 : k + 1 + (es.length - k) = es.length + 1 := by omega
          go_region_held3 (fun w' => w'.cell? ⟨b3, 0, none⟩ = some (.int .i64 (t.1 : Int)) ∧ w'.cell? ⟨b3, 1, none⟩ = some (.int .i64 (t.2 : Int)))
            (first | (simp [*]; done) | (exact ⟨cell_alloc (by assumption) _, cell_alloc (by assumption) _⟩))
            (first
              | (refine step_append_to rfl (.const (.slice none 0 0)) (.tmp 23) 23 rfl 56 i0 (.agg #[.int .i64 0, .int .i64 0]) 2 16 Try.underlying23 hi hz0 hz1 hz2 rfl (by decide) (k) (cellsOf (es.take k)) rfl (Ow.nil_ _ _) rfl (by first | exact hT.fr ((Fr.refl No _).drew) (fun _ _ => id) | exact hT.fr (((Fr.refl No _).alloc _).drew) fun _ _ => id) one_cells (by omega) rfl (by omega) (by simp only [maxLen]; omega) ?_; intro A5 c5 w5 hO5 hfr5 hA5; have s1 := hfr5.cell (by first | exact cell_drew q0 | exact cell_drew (cell_alloc q0 _)) (hA1 _); have s2 := hfr5.cell (by first | exact cell_drew q1 | exact cell_drew (cell_alloc q1 _)) (hA1 _); have n5' : ∀ x, InA A5 x → wq.heap.size ≤ x := fun x h => (hA5 x h).elim (fun h => absurd h (hA1 x)) (fun h => by simp at h; omega); have n5 : ¬ InA A5 b3 := (fun h => by have := n5' _ h; omega); have hq5 : Fr No wq w5 := (by first | exact ((Fr.refl No wq).drew).trans hfr5 (fun x _ h => hA1 x h) | exact (((Fr.refl No wq).alloc _).drew).trans hfr5 (fun x _ h => hA1 x h)))
              | (refine step_append_to rfl (.tmp 24) (.tmp 26) 23 rfl 56 i0 (.agg #[.int .i64 0, .int .i64 0]) 2 16 Try.underlying23 hi hz0 hz1 hz2 rfl (by decide) (k + 1) (cellsOf (es.take k) ++ [.int .i64 (t.1 : Int), .int .i64 (t.2 : Int)]) rfl (by first | exact hO5 | exact hO5.fr ((Fr.refl No _).alloc _) fun _ _ => id) rfl (by first | exact Rd.new2 _ _ _ _ | exact ((Rd.new2 _ _ _ _).fr ((Fr.refl No _).drew) fun _ _ => id).fr hfr5 fun b _ => hA1 b) one_iv2 rfl rfl (by omega) (by simp only [maxLen]; omega) ?_; intro A6 c6 w6 hO6 hfr6 hA6; have s1 := hfr6.cell (by first | exact s1 | exact cell_alloc s1 _) n5; have s2 := hfr6.cell (by first | exact s2 | exact cell_alloc s2 _) n5; have hq6 : Fr No wq w6 := (by first | exact hq5.new hfr6 n5' | exact (hq5.alloc _).new hfr6 n5'); have n6 : ∀ x, InA A6 x → wq.heap.size ≤ x := fun x h => (hA6 x h).elim (n5' x) (fun h => by have := hq5.size; (try simp at h); omega); have n6' : ¬ InA A6 b3 := (fun h => by have := n6 _ h; omega))
              | (refine step_append_to rfl (.tmp 27) (.tmp 30) 23 rfl 56 i0 (.agg #[.int .i64 0, .int .i64 0]) 2 16 Try.underlying23 hi hz0 hz1 hz2 rfl (by decide) (es.length + 1) (cellsOf (es.take k ++ t :: es.drop k)) rfl hO6 rfl (hD.fr hq6 fun _ _ => id) one_cells (by omega) (by rw [cellsOf_append, List.append_assoc]; rfl) (by omega) (by simp only [maxLen]; omega) ?_; intro A7 c7 w7 hO7 hfr7 hA7; have s1 := hfr7.cell s1 n6'; have s2 := hfr7.cell s2 n6'))
          all_goals
            have hq7 : Fr No wq w7 := hq6.new hfr7 n6
            have n7 : ∀ x, InA A7 x → w.heap.size ≤ x := fun x h => (hA7 x h).elim (fun h => Nat.le_trans (f1.step hfq).size (n6 x h)) (fun h => Nat.le_trans (f1.step (hfq.step hq6)).size h)
            have hfin := f1.step (hfq.step hq7)
            clear s1 s2 hO5 hO6 hfr5 hfr6 hfr7 hA5 hA6 hA7 n5 n5' n6 n6' hq5 hq6 hq7 hT hD
            go_wp2_with fail
            go_ret
            exact ⟨k, A7, c7, by omega, HA.out, (fun h _ hlt => by rw [HGET.out h, ← lexB_true, HC.out] at hlt; cases hlt), rfl, hO7, hfin, n7⟩
theorem put_nil_spec {t : Nat × Nat} :
    Calls Try.prog 43 #[.slice none 0 0, .agg #[.int .i64 (t.1 : Int), .int .i64 (t.2 : Int)]] w (PutPost w [] t) := by
  obtain ⟨i0, hi, hz0, hz1, hz2⟩ := info_parts info_edge
  have f1 : Fr No w (w.alloc (.cells #[.int .i64 (t.1 : Int), .int .i64 (t.2 : Int)] 56)) := (Fr.refl _ _).alloc _
  have cg := Cs.new w 56 #[.int .i64 (t.1 : Int), .int .i64 (t.2 : Int)]
  have g0 := cg.cell 0
  have g1 := cg.cell 1
  simp only [List.getElem?_toArray, List.getElem?_cons_zero, List.getElem?_cons_succ] at g0 g1
  clear cg
  go_enter Try.func43, Try.ntmps43
  go_upto_region 1 with (fail)
  generalize w.alloc (.cells #[.int .i64 (t.1 : Int), .int .i64 (t.2 : Int)] 56) = w1 at f1 g0 g1 ⊢
  generalize w.heap.size = b3 at g0 g1 ⊢
  go_wp2_with fail
  go_loopg [5] 0 (fun _ (x : Value) wr => x = .int .i64 0 ∧ Fr No w1 wr)
  case atStart => exact ⟨rfl, Fr.refl _ _⟩
  case round =>
    obtain ⟨rfl, hfr⟩ := hrel
    have q0 := hfr.cell g0 id
    have q1 := hfr.cell g1 id
    go_wp2_with fail
    go_quiet (fail)
    go_wp2_with fail
    have hfq := hfr.drewN nq
    have q0 := hfq.cell g0 id
    have q1 := hfq.cell g1 id
    generalize wr.drewN nq = wq at hfq q0 q1 ⊢
    clear hfr g0 g1
    have hT : Rd wq 2 none 0 (cellsOf []) := Rd.nil_ _ _ _
    have hD : Rd wq 2 none (0) (cellsOf []) := Rd.nil_ _ _ _
    have hA1 : ∀ x, ¬ InA (none : Option Addr) x := fun x ⟨ad, h, _⟩ => by cases h
    have hb3 : b3 < wq.heap.size := World.block_lt_of_cell? _ _ q0
    go_region_held3 (fun w' => w'.cell? ⟨b3, 0, none⟩ = some (.int .i64 (t.1 : Int)) ∧ w'.cell? ⟨b3, 1, none⟩ = some (.int .i64 (t.2 : Int)))
      (first | (simp [*]; done) | (exact ⟨cell_alloc (by assumption) _, cell_alloc (by assumption) _⟩))
      (first
        | (refine step_append_to rfl (.const (.slice none 0 0)) (.tmp 23) 23 rfl 56 i0 (.agg #[.int .i64 0, .int .i64 0]) 2 16 Try.underlying23 hi hz0 hz1 hz2 rfl (by decide) (0) (cellsOf []) rfl (Ow.nil_ _ _) rfl (by first | exact hT.fr ((Fr.refl No _).drew) (fun _ _ => id) | exact hT.fr (((Fr.refl No _).alloc _).drew) fun _ _ => id) one_cells (by omega) rfl (by omega) (by simp only [maxLen]; omega) ?_; intro A5 c5 w5 hO5 hfr5 hA5; have s1 := hfr5.cell (by first | exact cell_drew q0 | exact cell_drew (cell_alloc q0 _)) (hA1 _); have s2 := hfr5.cell (by first | exact cell_drew q1 | exact cell_drew (cell_alloc q1 _)) (hA1 _); have n5' : ∀ x, InA A5 x → wq.heap.size ≤ x := fun x h => (hA5 x h).elim (fun h => absurd h (hA1 x)) (fun h => by simp at h; omega); have n5 : ¬ InA A5 b3 := (fun h => by have := n5' _ h; omega); have hq5 : Fr No wq w5 := (by first | exact ((Fr.refl No wq).drew).trans hfr5 (fun x _ h => hA1 x h) | exact (((Fr.refl No wq).alloc _).drew).trans hfr5 (fun x _ h => hA1 x h)))
        | (refine step_append_to rfl (.tmp 24) (.tmp 26) 23 rfl 56 i0 (.agg #[.int .i64 0, .int .i64 0]) 2 16 Try.underlying23 hi hz0 hz1 hz2 rfl (by decide) (0 + 1) (cellsOf [] ++ [.int .i64 (t.1 : Int), .int .i64 (t.2 : Int)]) rfl (by first | exact hO5 | exact hO5.fr ((Fr.refl No _).alloc _) fun _ _ => id) rfl (by first | exact Rd.new2 _ _ _ _ | exact ((Rd.new2 _ _ _ _).fr ((Fr.refl No _).drew) fun _ _ => id).fr hfr5 fun b _ => hA1 b) one_iv2 rfl rfl (by omega) (by simp only [maxLen]; omega) ?_; intro A6 c6 w6 hO6 hfr6 hA6; have s1 := hfr6.cell (by first | exact s1 | exact cell_alloc s1 _) n5; have s2 := hfr6.cell (by first | exact s2 | exact cell_alloc s2 _) n5; have hq6 : Fr No wq w6 := (by first | exact hq5.new hfr6 n5' | exact (hq5.alloc _).new hfr6 n5'); have n6 : ∀ x, InA A6 x → wq.heap.size ≤ x := fun x h => (hA6 x h).elim (n5' x) (fun h => by have := hq5.size; (try simp at h); omega); have n6' : ¬ InA A6 b3 := (fun h => by have := n6 _ h; omega))
        | (refine step_append_to rfl (.tmp 27) (.tmp 30) 23 rfl 56 i0 (.agg #[.int .i64 0, .int .i64 0]) 2 16 Try.underlying23 hi hz0 hz1 hz2 rfl (by decide) (1) (cellsOf [t]) rfl hO6 rfl (hD.fr hq6 fun _ _ => id) one_cells (by omega) rfl (by omega) (by simp only [maxLen]; omega) ?_; intro A7 c7 w7 hO7 hfr7 hA7; have s1 := hfr7.cell s1 n6'; have s2 := hfr7.cell s2 n6'))
    all_goals
      have hq7 : Fr No wq w7 := hq6.new hfr7 n6
      have n7 : ∀ x, InA A7 x → w.heap.size ≤ x := fun x h => (hA7 x h).elim (fun h => Nat.le_trans (f1.step hfq).size (n6 x h)) (fun h => Nat.le_trans (f1.step (hfq.step hq6)).size h)
      have hfin := f1.step (hfq.step hq7)
      clear s1 s2 hO5 hO6 hfr5 hfr6 hfr7 hA5 hA6 hA7 n5 n5' n6 n6' hq5 hq6 hq7 hT hD
      go_wp2_with fail
      go_ret
      exact ⟨0, A7, c7, Nat.le_refl _, (fun j hj => absurd hj (by simp)), (fun h => absurd h (by simp)), rfl, hO7, hfin, n7⟩

theorem put_spec {Ae : Option Addr} {ce : Nat} {t : Nat × Nat} (hl : es.length ≤ 65536) (hO : Ow w 2 Ae es.length ce (cellsOf es)) :
    Calls Try.prog 43 #[.slice Ae es.length ce, .agg #[.int .i64 (t.1 : Int), .int .i64 (t.2 : Int)]] w (PutPost w es t) := by
  cases Ae with
  | none =>
    have hc := hO.nil rfl
    subst hc
    have he : es = [] := List.eq_nil_of_length_eq_zero (by have := hO.le; omega)
    subst he
    exact put_nil_spec
  | some ad =>
    obtain ⟨h1, _⟩ := hO.row ad rfl
    obtain ⟨b, o, s⟩ := ad
    simp only at h1; subst h1
    exact put_some_spec hl hO
end Gar

namespace Gar
open Go Go.RowKit Go.Proofs
set_option maxRecDepth 100000
set_option maxHeartbeats 1600000
variable {w : World} {n : Nat} {es : List (Nat × Nat)}

def AddPost (w : World) (n : Nat) (e : Ending) (w' : World) : Prop :=
  Fr No w w' ∧ ((∃ k : Int, k ≠ 0 ∧ e = .returned (.tuple #[.agg #[.int .i64 0, .slice none 0 0], .int .i64 k])) ∨
    ∃ es' A c, Good n es' ∧ e = .returned (.tuple #[.agg #[.int .i64 (n : Int), .slice A es'.length c], .int .i64 0]) ∧ Ow w' 2 A es'.length c (cellsOf es') ∧ ∀ x, InA A x → w.heap.size ≤ x)

theorem results_cell_tmp {fn : Func} {p u : Tmp} {ty : TypeId} (h : fn.results = #[.cell p ty, .tmp u]) (tmps : Array Value) (P : Program) (w : World) :
    (results fn tmps).run P w = ((asAddr (tmps.getD p undef)).run P w).andThen fun a w1 => ((loadVar ty a).run P w1).andThen fun v w2 => .ok (.tuple #[v, tmps.getD u undef]) w2 := by
  simp only [results, h]
  simp [Sem.run_bind, Result.andThen]

/-- Two cells, stored one behind the other. -/
theorem set2_cells {w : World} {b : Nat} {u v : Value} (x y : Value) (r0 : w.cell? ⟨b, 0, none⟩ = some u) (r1 : w.cell? ⟨b, 1, none⟩ = some v) :
    ∃ w', w' = (w.setCell ⟨b, 0, none⟩ x).setCell ⟨b, 1, none⟩ y ∧ w'.cell? ⟨b, 0, none⟩ = some x ∧ w'.cell? ⟨b, 1, none⟩ = some y ∧ Fr (fun z => z = b) w w' :=
  ⟨_, rfl, (World.cell?_setCell_other _ _ _ _ (by simp)).trans (World.cell?_setCell_same _ _ _ r0), World.cell?_setCell_same _ _ _ ((World.cell?_setCell_other _ _ _ _ (by simp)).trans r1),
    ((Fr.refl (fun z => z = b) w).setCell ⟨b, 0, none⟩ _ fun _ => rfl).setCell ⟨b, 1, none⟩ _ fun _ => rfl⟩

theorem add_spec {Ae : Option Addr} {ce a b : Nat} (hG : Good n es) (hO : Ow w 2 Ae es.length ce (cellsOf es)) (ha : a < n) (hb : b < n) :
    Calls Try.prog 22 #[.agg #[.int .i64 (n : Int), .slice Ae es.length ce], .int .i64 (a : Int), .int .i64 (b : Int)] w (AddPost w n) := by
  have hn := hG.n_le
  have hm := hG.m_le
  have c3 := Cs.new w 25 #[.int .i64 (n : Int), .slice Ae es.length ce]
  have c3 := c3.alloc (.cells #[.int .i64 0, .slice none 0 0] 25)
  have c6 := Cs.new (w.alloc (.cells #[.int .i64 (n : Int), .slice Ae es.length ce] 25)) 25 #[.int .i64 0, .slice none 0 0]
  have f1 : Fr No w ((w.alloc (.cells #[.int .i64 (n : Int), .slice Ae es.length ce] 25)).alloc (.cells #[.int .i64 0, .slice none 0 0] 25)) := ((Fr.refl _ _).alloc _).alloc _
  have e6 : (w.alloc (.cells #[.int .i64 (n : Int), .slice Ae es.length ce] 25)).heap.size = w.heap.size + 1 := by simp
  rw [e6] at c6
  clear e6
  have hO1 := hO.fr f1 fun _ _ => id
  clear hO
  have HG := Lib.hid hG
  clear hG
  go_enter Try.func22, Try.ntmps22
  go_upto_region 1 with (fail)
  generalize (w.alloc (.cells #[.int .i64 (n : Int), .slice Ae es.length ce] 25)).alloc (.cells #[.int .i64 0, .slice none 0 0] 25) = w1 at c3 c6 f1 hO1 ⊢
  obtain ⟨b6, hb6⟩ : ∃ b6, b6 = w.heap.size + 1 := ⟨_, rfl⟩
  rw [← hb6] at c6 ⊢
  obtain ⟨b3, hb3⟩ : ∃ b3, b3 = w.heap.size := ⟨_, rfl⟩
  rw [← hb3] at c3 ⊢
  have hne : b6 ≠ b3 := by omega
  have hsz : w.heap.size ≤ b6 := by omega
  have HB6 := Lib.hid hb6
  have HB3 := Lib.hid hb3
  have g0 := c3.cell 0
  have g1 := c3.cell 1
  simp only [List.getElem?_toArray, List.getElem?_cons_zero, List.getElem?_cons_succ] at g0 g1
  have HO := Lib.hid hO1
  have HC3 := Lib.hid c3
  have HC6 := Lib.hid c6
  clear hO1 c3 c6 hb6 hb3
  go_wp2_with fail
  refine (right2_spec HG.out HO.out.rd).mono ?_
  rintro e w2 ⟨rfl, hfr2⟩
  have g0 := hfr2.cell g0 id
  have g1 := hfr2.cell g1 id
  go_wp2_with fail
  refine (is_spec ha).mono ?_
  rintro e w3 ⟨rfl, hfr3⟩
  have g0 := hfr3.cell g0 id
  have g1 := hfr3.cell g1 id
  go_wp2_with fail
  refine (is_spec hb).mono ?_
  rintro e w4 ⟨rfl, hfr4⟩
  have g0 := hfr4.cell g0 id
  have g1 := hfr4.cell g1 id
  have hfr := (hfr2.step hfr3).step hfr4
  clear hfr2 hfr3 hfr4
  by_cases hab : a = b
  · have e0 : ((a : Int) == (b : Int)) = true := by simp [hab]
    have c6 := HC6.out.fr hfr id
    have r0 := c6.cell 0
    have r1 := c6.cell 1
    have z0 := c6.frozen 0
    have z1 := c6.frozen 1
    simp only [List.getElem?_toArray, List.getElem?_cons_zero, List.getElem?_cons_succ] at r0 r1
    clear hab c6
    go_wp2_with fail
    obtain ⟨w9, hw9, t0, t1, hfr9⟩ := set2_cells (.int .i64 0) (.slice none 0 0) r0 r1
    rw [← hw9]
    clear hw9 r0 r1 z0 z1
    refine bodyPost_ret (v := .tuple #[.agg #[.int .i64 0, .slice none 0 0], .int .i64 5]) (by rw [results_cell_tmp rfl]; go_simp) rfl ?_
    exact ⟨(f1.step hfr).new hfr9 fun x e => by rw [e]; exact hsz, .inl ⟨5, by decide, rfl⟩⟩
  · have e0 : ((a : Int) == (b : Int)) = false := by simp; omega
    have HAB := Lib.hid hab
    clear hab
    go_wp2_with fail
    refine (has_spec HG.out (HO.out.rd.fr hfr fun _ _ => id)).mono ?_
    rintro e w5 ⟨hfr5, rfl⟩
    have g0 := hfr5.cell g0 id
    have g1 := hfr5.cell g1 id
    have hfr := hfr.step hfr5
    have c6 := HC6.out.fr hfr id
    have r0 := c6.cell 0
    have r1 := c6.cell 1
    have z0 := c6.frozen 0
    have z1 := c6.frozen 1
    simp only [List.getElem?_toArray, List.getElem?_cons_zero, List.getElem?_cons_succ] at r0 r1
    clear hfr5 c6
    by_cases hin : turn2 a b ∈ es
    · rw [decide_eq_true hin]
      clear hin
      go_wp2_with fail
      obtain ⟨w9, hw9, t0, t1, hfr9⟩ := set2_cells (.int .i64 0) (.slice none 0 0) r0 r1
      rw [← hw9]
      clear hw9 r0 r1 z0 z1
      refine bodyPost_ret (v := .tuple #[.agg #[.int .i64 0, .slice none 0 0], .int .i64 6]) (by rw [results_cell_tmp rfl]; go_simp) rfl ?_
      exact ⟨(f1.step hfr).new hfr9 fun x e => by rw [e]; exact hsz, .inl ⟨6, by decide, rfl⟩⟩
    · rw [decide_eq_false hin]
      have HIN := Lib.hid hin
      clear hin
      by_cases hl : 65536 ≤ es.length
      · have e1 : decide ((65536 : Int) ≤ (es.length : Int)) = true := by rw [decide_eq_true_iff]; omega
        clear hl
        go_wp2_with fail
        obtain ⟨w9, hw9, t0, t1, hfr9⟩ := set2_cells (.int .i64 0) (.slice none 0 0) r0 r1
        rw [← hw9]
        clear hw9 r0 r1 z0 z1
        refine bodyPost_ret (v := .tuple #[.agg #[.int .i64 0, .slice none 0 0], .int .i64 8]) (by rw [results_cell_tmp rfl]; go_simp) rfl ?_
        exact ⟨(f1.step hfr).new hfr9 fun x e => by rw [e]; exact hsz, .inl ⟨8, by decide, rfl⟩⟩
      · have e1 : decide ((65536 : Int) ≤ (es.length : Int)) = false := by rw [decide_eq_false_iff_not]; omega
        have HL := Lib.hid hl
        clear hl
        go_wp2_with fail
        have hO5 := HO.out.fr hfr fun _ _ => id
        have HO5 := Lib.hid hO5
        have r0' := r0
        have r1' := r1
        have Z0 := Lib.hid z0
        have Z1 := Lib.hid z1
        clear hO5 z0 z1
        go_region_held3 (fun w' => w'.cell? ⟨b3, 0, none⟩ = some (.int .i64 (n : Int)) ∧ w'.cell? ⟨b3, 1, none⟩ = some (.slice Ae es.length ce))
          (first | (simp [*, World.cell?_setCell_far]; done) | (refine ⟨?_, ?_⟩ <;> exact Fr.cell (by assumption) (by first | assumption | (simp [*]; done)) id))
          (first
            | (go_at_call 44; refine (turned2_spec (a := a) (b := b)).mono ?_; rintro e6 w6 ⟨rfl, hfr6⟩; have d6 : Fr No w5 w6 := (Fr.refl No w5).drew.step hfr6)
            | (go_at_call 43; refine (put_spec (t := turn2 a b) hm (HO5.out.fr d6 fun _ _ => id)).mono ?_; rintro e7 w7 ⟨k, A7, c7, hk7, h71, h72, rfl, hO7, hfr7, hA7⟩; have d7 : Fr No w5 w7 := d6.step hfr7; have r0 := d7.cell r0 id; have r1 := d7.cell r1 id; have z0 := d7.frz r0' Z0.out id; have z1 := d7.frz r1' Z1.out id))
        obtain ⟨w9, hw9, t0, t1, hfr9⟩ := set2_cells (.int .i64 (n : Int)) (.slice A7 (es.length + 1) c7) r0 r1
        rw [← hw9]
        have hb6 : b6 < w6.heap.size := Nat.lt_of_lt_of_le (World.block_lt_of_cell? _ _ r0') d6.size
        have hO9 := hO7.fr hfr9 fun x hx e => by have := hA7 x hx; omega
        have hfr8 : Fr No w w9 := ((f1.step hfr).step d7).new hfr9 fun x e => by rw [e]; exact hsz
        have hA9 : ∀ x, InA A7 x → w.heap.size ≤ x := fun x hx => Nat.le_trans ((f1.step hfr).step d6).size (hA7 x hx)
        have hlen : (es.take k ++ turn2 a b :: es.drop k).length = es.length + 1 := by simp; omega
        have hgood := HG.out.put (t := turn2 a b) (by have := HAB.out; unfold turn2; split <;> simp <;> omega) HIN.out (by have := HL.out; omega) hk7 h71 h72
        have HOO := Lib.hid hO9
        have HF := Lib.hid hgood
        have HLN := Lib.hid hlen
        clear hw9 r0 r1 z0 z1 hO7 hfr7 hA7 d7 d6 hfr6 h71 h72 hO9 hgood hlen e1 e0
        go_wp2_with fail
        refine bodyPost_ret (v := .tuple #[.agg #[.int .i64 (n : Int), .slice A7 (es.length + 1) c7], .int .i64 0]) (by rw [results_cell_tmp rfl]; go_simp) rfl ?_
        exact ⟨hfr8, .inr ⟨_, A7, c7, HF.out, by rw [HLN.out], by rw [HLN.out]; exact HOO.out, hA9⟩⟩
end Gar
