/-
  PROVED: lemmas of the claim; no condition beyond what each one states.
  Walks: slices.Repeat.
  Walks: None, of a graph that is one.
  Walks: greedy.First.
  Walks: Enlarge, of a matching that may lie nowhere; Largest.
  Walks: Largest.
  Walks: Path, barrier.Labels, barrier.Of, barrier.Number.
  Walks: barrier.Of, barrier.Number, gallai.Of.
  PLAIN LAW. A set that is told shows that a largest matching is one.
-/
import Derived.Test.YtohpjggnhnjgpaaPart20
import Derived.Laws.IdiomCopy
import Derived.Test.YtohpjggnhnjgpaaPart1
import Derived.Test.YtohpjggnhnjgpaaPart13
import Derived.Test.YtohpjggnhnjgpaaPart2
import Derived.Test.YtohpjggnhnjgpaaPart19
import Derived.Test.YtohpjggnhnjgpaaPart11
set_option linter.unusedVariables false
set_option linter.unusedSimpArgs false

namespace Gar
open Go Go.RowKit Go.Proofs
set_option maxRecDepth 100000
set_option maxHeartbeats 1600000
variable {w : World} {n : Nat}

/-- Of n cells of one's own the first k are z. -/
def Filled (w : World) (b n k : Nat) (z : Value) : Prop := ∃ xs, Ow w 1 (some ⟨b, 0, none⟩) n n xs ∧ ∀ j, j < k → xs[j]? = some z

theorem Filled.copy {P : Program} {b k m : Nat} {z : Value} (h : Filled w b n k z) (hm : k + m ≤ n) (hk : m ≤ k) (hz : z.oneCell' = true) (hmin : m = Nat.min k (n - k)) (T ty e : TypeId) (i : TypeInfo) (hu : P.underlying T = some (.slice e)) (hi : P.info? e = some i) (hs : i.size = 1) :
    ∃ w', (Builtin.copy_ #[T, T] ty #[.slice (some ⟨b, k, none⟩) (n - k) (n - k), .slice (some ⟨b, 0, none⟩) k n]).run P w = .ok (goInt m) w' ∧ Filled w' b n (k + m) z ∧ Fr (fun x => x = b) w w' := by
  obtain ⟨xs, hO, hxs⟩ := h
  obtain ⟨_, cs, hc, hsz, hg⟩ := hO.row _ rfl
  simp only [Nat.zero_add, Nat.mul_one] at hsz hg
  have hrun := run_copy_cells (P := P) w T T ty e b k (n - k) (n - k) ⟨b, 0, none⟩ k n (List.replicate m z) hu (by rw [hi]; simp [hs]) (by simp [hmin])
    (fun j v hv => by
      rw [List.getElem?_replicate] at hv
      split at hv
      · rename_i hj
        injection hv with hv; subst hv
        rw [Addr.add_lit, hc.cell, Nat.zero_add]; exact hg j _ (hxs j (by omega))
      · cases hv)
    (fun j hj => by rw [hc.cell]; simp only [List.length_replicate] at hj; rw [Array.getElem?_eq_getElem (by omega)]; rfl)
    (fun j _ => hc.frozen _) (fun v hv => by rw [List.mem_replicate] at hv; rw [hv.2]; exact hz)
  rw [List.length_replicate] at hrun
  obtain ⟨c', h1, h2, h3, h4⟩ := Cs.sets (List.replicate m z) k w cs hc (by rw [List.length_replicate]; omega)
  obtain ⟨f1, f2, f3, f4, f5⟩ := heap_setCells b (List.replicate m z) k w
  refine ⟨_, hrun, ⟨c'.toList.take n, ⟨by rw [List.length_take, Array.length_toList]; omega, Nat.le_refl _, hO.max, nofun, fun ad he => ?_⟩, fun j hj => ?_⟩, ⟨f1, f2, f3, by omega, fun x hx hne => f5 x hne⟩⟩
  · injection he with he; subst he
    refine ⟨rfl, c', h1, by simp only [Nat.zero_add, Nat.mul_one]; omega, fun j u hj => ?_⟩
    rw [List.getElem?_take] at hj
    split at hj
    · simpa using hj
    · cases hj
  · rw [List.getElem?_take, if_pos (by omega), Array.getElem?_toList]
    rcases Nat.lt_or_ge j k with hl | hl
    · rw [h3 j hl]; exact hg j _ (hxs j hl)
    · have := h4 (j - k) z (by rw [List.getElem?_replicate, if_pos (by omega)])
      rwa [show k + (j - k) = j from by omega] at this

theorem step_copy_filled {P : Program} {ops : Array Oper} {o : Oper} {a : Act} {w : World} {K : Act → World → Prop} {Q : Exit → Act → World → Prop} {E : Prop} (hg : o.guard = none) (d s : Operand) (T : TypeId)
    (ho : o.op = Op.call { callee := Callee.builtin Builtin.copy, args := #[d, s], argTypes := #[T, T] }) (e : TypeId) (i : TypeInfo) (hu : P.underlying T = some (.slice e)) (hi : P.info? e = some i) (hs1 : i.size = 1)
    {b n k m : Nat} {z : Value} (h : Filled w b n k z) (hm : k + m ≤ n) (hk : m ≤ k) (hz : z.oneCell' = true) (hmin : m = Nat.min k (n - k)) (hd : a.eval d = .slice (some ⟨b, k, none⟩) (n - k) (n - k)) (hs : a.eval s = .slice (some ⟨b, 0, none⟩) k n)
    (hK : ∀ w', Filled w' b n (k + m) z → Fr (fun x => x = b) w w' → K (a.put o.dst (goInt m)) w') : if Region.wanted o (yielded ops a.tmps) = true then Oper.wp P o a w K Q else E := by
  have hw : Region.wanted o (yielded ops a.tmps) = true := by simp [Region.wanted, hg]
  rw [if_pos hw]
  obtain ⟨w', hr, h1, h2⟩ := h.copy (P := P) hm hk hz hmin T o.type e i hu hi hs1
  unfold Oper.wp
  simp [execOp, ho, resolve, invoke, builtin, hd, hs, hr, Result.andThen]
  exact hK _ h1 h2

def RepRel (w : World) (b n : Nat) (z : Value) (g : Nat) (x8 : Value) (wr : World) : Prop :=
  ∃ k : Nat, x8 = .int .i64 (k : Int) ∧ 0 < k ∧ k ≤ n ∧ g = n - k ∧ Filled wr b n k z ∧ Fr No w wr

def RepPost (w : World) (n : Nat) (z : Value) (e : Ending) (w' : World) : Prop :=
  ∃ b, e = .returned (.slice (some ⟨b, 0, none⟩) n n) ∧ w.heap.size ≤ b ∧ Ow w' 1 (some ⟨b, 0, none⟩) n n (List.replicate n z) ∧ Fr No w w'

theorem repeat_spec {b0 c : Nat} {x : Int} (hn : n ≤ 4096) (hn0 : 0 < n) (h0 : w.cell? ⟨b0, 0, none⟩ = some (.int .i64 x)) :
    Calls Try.prog 65 #[.slice (some ⟨b0, 0, none⟩) 1 c, .int .i64 (n : Int)] w (RepPost w n (.int .i64 x)) := by
  obtain ⟨i0, hi, hz0, hz1, hz2⟩ := info_parts info_int
  have w1 : IntKind.u64.wrap (n : Int) = (n : Int) := by rw [IntKind.wrap_u64]; omega
  have w2 : IntKind.i64.wrap (n : Int) = (n : Int) := by rw [IntKind.wrap_i64]; omega
  have e1 : decide ((n : Int) < 0) = false := by simp
  have e2 : ¬ (9223372036854775807 : Int) < (n : Int) := by omega
  go_enter Try.func65, Try.ntmps65
  go_wp2_with (first
    | (go_at_call 79; refine (mul_spec hn).mono ?_; rintro e w' ⟨rfl, rfl⟩)
    | (at_make; refine wpList_make_ow rfl _ _ 22 rfl 3 i0 (.int .i64 0) Try.underlying22 hi hz0 hz1 (by simp [Value.cells]) _ _ _ _ n rfl rfl rfl rfl (by rw [hz2]; omega) (by simp only [maxLen]; omega) ?_; intro b w1 hb hO hfr))
  rename_i w0 _ _ _ _ _
  have hx := hfr.cell h0 id
  have hL := hO.row _ rfl
  obtain ⟨_, cs, hc, hsz, hg⟩ := hL
  simp only [Nat.zero_add, Nat.mul_one] at hsz hg
  have hrun := run_copy_cells (P := Try.prog) w1 22 22 3 3 b 0 n n ⟨b0, 0, none⟩ 1 c [.int .i64 x] Try.underlying22 (by rw [hi]; simp [hz1]) (by show 1 = min 1 n; omega)
    (fun j v hv => by
      cases j with
      | zero => simp only [List.getElem?_cons_zero, Option.some.injEq] at hv; subst hv; exact hx
      | succ j => simp at hv)
    (fun j hj => by simp only [List.length_cons, List.length_nil] at hj; rw [hc.cell, Array.getElem?_eq_getElem (by omega)]; rfl) (fun j _ => hc.frozen _) (by simp [Value.oneCell'])
  rw [hrun]
  have hF : Filled (w1.setCells b 0 [.int .i64 x]) b n 1 (.int .i64 x) := ⟨_, hO.set 0 (.int .i64 x), fun j hj => by
    have : j = 0 := by omega
    subst this; rw [List.getElem?_set, if_pos rfl, if_pos (by simpa using hn0)]⟩
  have hfr2 : Fr No w' (w1.setCells b 0 [.int .i64 x]) := hfr.setCell ⟨b, 0, none⟩ _ fun h => absurd h (Nat.not_lt.2 hb)
  generalize w1.setCells b 0 [.int .i64 x] = w2 at hF hfr2 ⊢
  have e3 : (([Value.int IntKind.i64 x].length : Nat) : Int) = 1 := rfl
  rw [e3]
  clear hrun hc hsz hg hx hO hfr h0 e3
  go_wp2_with fail
  go_loopg [8] (n - 1) (RepRel w' b n (.int .i64 x))
  case atStart => exact ⟨1, rfl, by omega, by omega, by omega, hF, hfr2⟩
  case round =>
    clear hF hfr2
    obtain ⟨k, rfl, hk0, hk, hg, hF, hfr2⟩ := hrel
    have HG := Lib.hid hg
    clear hg
    by_cases hlt : k < n
    · obtain ⟨m, hm⟩ : ∃ m, m = Nat.min k (n - k) := ⟨_, rfl⟩
      have hmk : m ≤ k := by rw [hm]; exact Nat.min_le_left _ _
      have hmn : k + m ≤ n := by have : m ≤ n - k := by rw [hm]; exact Nat.min_le_right _ _
                                 omega
      have hm0 : 0 < m := by rw [hm]; show 0 < min k (n - k); omega
      have HM := Lib.hid hm
      clear hm
      have hF' : Filled wr.drew b n k (.int .i64 x) := by
        obtain ⟨xs, h1, h2⟩ := hF
        exact ⟨xs, h1.fr (S := No) ((Fr.refl _ _).drew) fun _ _ => id, h2⟩
      have hkn : (k : Int) ≤ (n : Int) := by omega
      have hne : ¬ n = k := by omega
      go_wp2_with fail
      go_region_law (refine step_copy_filled rfl (.tmp 41) (.tmp 44) 22 rfl 3 i0 Try.underlying22 hi hz1 hF' hmn hmk rfl HM.out (by kernel_rfl) (by kernel_rfl) ?_; intro w3 hF3 hfr3)
      have hkm : IntKind.i64.wrap ((k : Int) + (m : Int)) = ((k + m : Nat) : Int) := by rw [IntKind.wrap_i64]; omega
      have hgi : goInt m = .int .i64 (m : Int) := rfl
      have hfr4 : Fr No w' w3 := hfr2.trans ((Fr.refl (fun x => x = b) wr).drew.step hfr3) fun x hx e => by subst e; exact absurd hx (Nat.not_lt.2 (by assumption))
      have HKM := Lib.hid hkm
      have HM0 := Lib.hid hm0
      clear hF hF' hfr2 hfr3 hm0 hkn hne hmk
      clear hkm
      clear hgi
      go_wp2_with fail
      go_roundg (n - (k + m))
      case measure => rw [HG.out]; have := HM0.out; omega
      case rel => exact ⟨k + m, by rw [HKM.out], by omega, hmn, rfl, hF3, hfr4⟩
    · have : k = n := by omega
      subst this
      go_wp2_with fail
      go_ret
      obtain ⟨xs, h1, h2⟩ := hF
      have : xs = List.replicate k (.int .i64 x) := List.ext_getElem? fun j => by
        rcases Nat.lt_or_ge j k with h | h
        · rw [h2 j h, List.getElem?_replicate, if_pos h]
        · rw [List.getElem?_eq_none (by have := h1.len; omega), List.getElem?_replicate, if_neg (by omega)]
      subst this
      exact ⟨b, rfl, hb, h1, hfr2⟩
end Gar

namespace Gar
open Go Go.RowKit Go.Proofs
set_option maxRecDepth 100000
set_option maxHeartbeats 1600000
variable {w : World} {n : Nat} {es : List (Nat × Nat)}

theorem repeat0_spec {b0 c : Nat} {x : Int} (h0 : w.cell? ⟨b0, 0, none⟩ = some (.int .i64 x)) :
    Calls Try.prog 65 #[.slice (some ⟨b0, 0, none⟩) 1 c, .int .i64 0] w (RepPost w 0 (.int .i64 x)) := by
  obtain ⟨i0, hi, hz0, hz1, hz2⟩ := info_parts info_int
  have w1 : IntKind.u64.wrap 0 = 0 := by decide
  have w2 : IntKind.i64.wrap 0 = 0 := by decide
  go_enter Try.func65, Try.ntmps65
  go_wp2_with (first
    | (go_at_call 79; refine (mul_spec (n := 0) (by omega)).mono ?_; rintro e w' ⟨rfl, rfl⟩)
    | (at_make; refine wpList_make_ow rfl _ _ 22 rfl 3 i0 (.int .i64 0) Try.underlying22 hi hz0 hz1 (by simp [Value.cells]) _ _ _ _ 0 rfl rfl rfl rfl (by rw [hz2]; omega) (by simp only [maxLen]; omega) ?_; intro b w1 hb hO hfr))
  have hx := hfr.cell h0 id
  have hrun := run_copy_cells (P := Try.prog) w1 22 22 3 3 b 0 0 0 ⟨b0, 0, none⟩ 1 c [] Try.underlying22 (by rw [hi]; simp [hz1]) (by show 0 = min 0 1; omega)
    (fun j v hv => by simp at hv) (fun j hj => by simp at hj) (fun j hj => by simp at hj) (by simp)
  rw [hrun]
  have hS : w1.setCells b 0 [] = w1 := rfl
  rw [hS]
  have e3 : ((([] : List Value).length : Nat) : Int) = 0 := rfl
  rw [e3]
  clear hrun hx h0 e3 hS
  have HO := Lib.hid hO
  clear hO
  go_wp2_with fail
  go_loopg [8] 0 (fun _ (x8 : Value) wr => x8 = .int .i64 0 ∧ wr = w1)
  case atStart => exact ⟨rfl, rfl⟩
  case round =>
    obtain ⟨rfl, rfl⟩ := hrel
    go_wp2_with fail
    go_ret
    exact ⟨b, rfl, hb, HO.out, hfr⟩

theorem none_spec {Ae : Option Addr} {ce : Nat} (hG : Good n es) (hR : Rd w 2 Ae es.length (cellsOf es)) :
    Calls Try.prog 49 #[.agg #[.int .i64 (n : Int), .slice Ae es.length ce]] w (RepPost w n (.int .i64 (-1))) := by
  have hn := hG.n_le
  have f1 : Fr No w (w.alloc (.cells #[.int .i64 (n : Int), .slice Ae es.length ce] 25)) := (Fr.refl _ _).alloc _
  have cg := Cs.new w 25 #[.int .i64 (n : Int), .slice Ae es.length ce]
  have g0 := cg.cell 0
  simp only [List.getElem?_toArray, List.getElem?_cons_zero, List.getElem?_cons_succ] at g0
  have hR1 := hR.fr f1 fun _ _ => id
  clear cg hR
  have HG := Lib.hid hG
  have HR := Lib.hid hR1
  have HG0 := Lib.hid g0
  clear hG hR1 g0
  go_enter Try.func49, Try.ntmps49
  rcases Nat.eq_zero_or_pos n with rfl | hp
  · go_wp2_with (first
      | (go_at_call 27; refine (right_spec HG.out HR.out).mono ?_; rintro e w2 ⟨rfl, hfr2⟩; have g0 := hfr2.cell HG0.out id; generalize w.heap.size = bg at g0 ⊢; have g1 := fun o => cell_alloc g0 o)
      | (go_at_call 65; refine (repeat0_spec (World.cell?_alloc_new _ _ _ 0)).mono ?_; rintro e w3 ⟨b, rfl, hb, hO, hfr3⟩))
    go_ret
    have hfr4 := f1.step (hfr2.step (((Fr.refl No _).alloc _).step hfr3))
    exact ⟨b, rfl, Nat.le_trans (f1.step (hfr2.step ((Fr.refl No _).alloc _))).size hb, hO, hfr4⟩
  · go_wp2_with (first
      | (go_at_call 27; refine (right_spec HG.out HR.out).mono ?_; rintro e w2 ⟨rfl, hfr2⟩; have g0 := hfr2.cell HG0.out id; generalize w.heap.size = bg at g0 ⊢; have g1 := fun o => cell_alloc g0 o)
      | (go_at_call 65; refine (repeat_spec hn hp (World.cell?_alloc_new _ _ _ 0)).mono ?_; rintro e w3 ⟨b, rfl, hb, hO, hfr3⟩))
    go_ret
    have hfr4 := f1.step (hfr2.step (((Fr.refl No _).alloc _).step hfr3))
    exact ⟨b, rfl, Nat.le_trans (f1.step (hfr2.step ((Fr.refl No _).alloc _))).size hb, hO, hfr4⟩
end Gar

namespace Gar
open Go Go.RowKit Go.Proofs
set_option maxRecDepth 100000
set_option maxHeartbeats 1600000
variable {w : World} {n : Nat} {es : List (Nat × Nat)}

theorem Good.gr (h : Good n es) : Gr n (adjOf es) :=
  ⟨fun v u hvu => by rcases hvu with hvu | hvu <;> (have := h.mem _ hvu; simp at this; omega), fun v u hvu => hvu.symm, fun v hv => by rcases hv with hv | hv <;> (have := h.mem _ hv; simp at this)⟩

theorem Mat.add {adj : Nat → Nat → Prop} {f : Nat → Option Nat} (G : Gr n adj) (M : Mat n adj f) {v u : Nat} (ha : adj v u) (hv : f v = none) (hu : f u = none) : Mat n adj (fun t => if t = u then some v else if t = v then some u else f t) := by
  have hne : v ≠ u := fun e => by subst e; exact G.irr _ ha
  have hlt := G.lt v u ha
  have key : ∀ a b, (if a = u then some v else if a = v then some u else f a) = some b → (a = u ∧ b = v) ∨ (a = v ∧ b = u) ∨ (a ≠ u ∧ a ≠ v ∧ f a = some b) := by
    intro a b h
    by_cases h1 : a = u
    · rw [if_pos h1] at h; injection h with h; exact .inl ⟨h1, h.symm⟩
    · rw [if_neg h1] at h
      by_cases h2 : a = v
      · rw [if_pos h2] at h; injection h with h; exact .inr (.inl ⟨h2, h.symm⟩)
      · rw [if_neg h2] at h; exact .inr (.inr ⟨h1, h2, h⟩)
  refine ⟨fun a b h => ?_, fun a b h => ?_, fun a b h => ?_⟩
  · rcases key a b h with ⟨rfl, rfl⟩ | ⟨rfl, rfl⟩ | ⟨_, _, h⟩
    · exact ⟨hlt.2, hlt.1⟩
    · exact hlt
    · exact M.lt a b h
  · rcases key a b h with ⟨rfl, rfl⟩ | ⟨rfl, rfl⟩ | ⟨h1, h2, h⟩
    · simp [hne]
    · simp
    · have hs := M.sym a b h
      have hbu : b ≠ u := fun e => by rw [e, hu] at hs; cases hs
      have hbv : b ≠ v := fun e => by rw [e, hv] at hs; cases hs
      simp [hbu, hbv, hs]
  · rcases key a b h with ⟨rfl, rfl⟩ | ⟨rfl, rfl⟩ | ⟨_, _, h⟩
    · exact G.sym _ _ ha
    · exact ha
    · exact M.adj a b h

theorem IdxPost.uni {w w' : World} {f : Nat → Option Nat} {us : List Nat} {e : Ending} (h : IdxPost w f us e w') : ∃ x : Int, e = .returned (.int .i64 x) ∧ Fr No w w' ∧ ((∃ (i u : Nat), us[i]? = some u ∧ f u = none ∧ x = (i : Int)) ∨ x = -1) := by
  obtain ⟨h1, ⟨i, u, h2, h3, rfl⟩ | ⟨_, rfl⟩⟩ := h
  · exact ⟨_, rfl, h1, .inl ⟨i, u, h2, h3, rfl⟩⟩
  · exact ⟨_, rfl, h1, .inr rfl⟩

/-- A matching of a graph, in memory of one's own. -/
def MatPost (w : World) (n : Nat) (es : List (Nat × Nat)) (e : Ending) (w' : World) : Prop :=
  ∃ f A c, e = .returned (.slice A n c) ∧ Mat n (adjOf es) f ∧ Ow w' 1 A n c (mv n f) ∧ (∀ x, InA A x → w.heap.size ≤ x) ∧ (0 < n → ∃ b, A = some ⟨b, 0, none⟩) ∧ Fr No w w'

def FirstRel (w5 : World) (n bm : Nat) (es : List (Nat × Nat)) (g : Nat) (x : Value) (wr : World) : Prop :=
  ∃ (v : Nat) (f : Nat → Option Nat), x = .int .i64 (v : Int) ∧ v ≤ n ∧ g = n - v ∧ Mat n (adjOf es) f ∧ Ow wr 1 (some ⟨bm, 0, none⟩) n n (mv n f) ∧ Fr (fun x => x = bm) w5 wr

theorem first_spec' {Ae : Option Addr} {ce : Nat} (hG : Good n es) (hR : Rd w 2 Ae es.length (cellsOf es)) :
    Calls Try.prog 28 #[.agg #[.int .i64 (n : Int), .slice Ae es.length ce]] w (MatPost w n es) := by
  have hn := hG.n_le
  have hm := hG.m_le
  have f1 : Fr No w (w.alloc (.cells #[.int .i64 (n : Int), .slice Ae es.length ce] 25)) := (Fr.refl _ _).alloc _
  have cg := Cs.new w 25 #[.int .i64 (n : Int), .slice Ae es.length ce]
  have g0 := cg.cell 0
  have g1 := cg.cell 1
  simp only [List.getElem?_toArray, List.getElem?_cons_zero, List.getElem?_cons_succ] at g0 g1
  have hR1 := hR.fr f1 fun _ _ => id
  have HG := Lib.hid hG
  have HR := Lib.hid hR1
  clear cg hR hR1 hG
  go_enter Try.func28, Try.ntmps28
  go_upto_region 1 with (fail)
  generalize w.alloc (.cells #[.int .i64 (n : Int), .slice Ae es.length ce] 25) = w1 at f1 g0 g1 HR ⊢
  generalize w.heap.size = b1 at g0 g1 ⊢
  go_wp2_with fail
  refine (none_spec HG.out HR.out).mono ?_
  rintro e w2 ⟨bm, rfl, hbm, hO, hfr2⟩
  have g0 := hfr2.cell g0 id
  have g1 := hfr2.cell g1 id
  have hR2 := HR.out.fr hfr2 fun _ _ => id
  have f2 := f1.step hfr2
  have hbm' : w.heap.size ≤ bm := Nat.le_trans f1.size hbm
  clear hfr2 hbm f1
  have HO := Lib.hid hO
  clear hO
  go_upto_region 2 with (fail)
  have c3 := Cs.new w2 85 #[.slice (some ⟨bm, 0, none⟩) n n]
  have s0 := c3.cell 0
  simp only [List.getElem?_toArray, List.getElem?_cons_zero, List.getElem?_cons_succ] at s0
  have f3 := f2.alloc (.cells #[.slice (some ⟨bm, 0, none⟩) n n] 85)
  have g0 := cell_alloc g0 (.cells #[.slice (some ⟨bm, 0, none⟩) n n] 85)
  have g1 := cell_alloc g1 (.cells #[.slice (some ⟨bm, 0, none⟩) n n] 85)
  have hR3 := hR2.fr ((Fr.refl No _).alloc (.cells #[.slice (some ⟨bm, 0, none⟩) n n] 85)) fun _ _ => id
  have hO3 := HO.out.fr ((Fr.refl No _).alloc (.cells #[.slice (some ⟨bm, 0, none⟩) n n] 85)) fun _ _ => id
  generalize w2.alloc (.cells #[.slice (some ⟨bm, 0, none⟩) n n] 85) = w3 at s0 f3 g0 g1 hR3 hO3 ⊢
  generalize w2.heap.size = b3 at s0 ⊢
  clear c3 HO hR2 f2
  have HO := Lib.hid hO3
  clear hO3
  rcases Nat.eq_zero_or_pos n with rfl | hp
  · have e0 : (((0 : Nat) : Int) == 0) = true := rfl
    go_wp2_with fail
    go_ret
    exact ⟨fun _ => none, none, 0, rfl, ⟨by simp, by simp, by simp⟩, Ow.nil_ _ _, (fun x ⟨ad, h, _⟩ => by cases h), (fun h => absurd h (by omega)), f3⟩
  · have e0 : ((n : Int) == 0) = false := by simp; omega
    go_wp2_with fail
    refine (lists_spec HG.out hR3).mono ?_
    rintro e w4 ⟨bn, An, cn, rfl, hbn, hOR, hfr4⟩
    have s0 := hfr4.cell s0 id
    have hO4 := HO.out.fr hfr4 fun _ _ => id
    have f4 := f3.step hfr4
    have hbmn : bm < w3.heap.size := HO.out.lt bm ⟨_, rfl, rfl⟩
    have hN := hOR.nearT hbn
    have HN := Lib.hid hN
    have hb3m : b3 ≠ bm := by
      intro e; subst e
      have := (hO4.cellAt (i := 0) (u := .int .i64 (-1)) (by simp [hp])).1
      rw [s0] at this; cases this
    have HO4 := Lib.hid hO4
    clear hO4 HO hOR hN hfr4 hR3 g0 g1 e0
    go_wp2_with fail
    go_loopg [23] n (FirstRel w4 n bm es)
    case atStart => exact ⟨0, fun _ => none, rfl, by omega, rfl, ⟨by simp, by simp, by simp⟩, by
      have : mv n (fun _ => none) = List.replicate n (.int .i64 (-1)) := List.ext_getElem? fun i => by simp only [mv, ev, List.getElem?_map, List.getElem?_replicate, List.getElem?_range']; by_cases h : i < n <;> simp [h]
      rw [this]; exact HO4.out, Fr.refl _ _⟩
    case round =>
      clear HO4
      obtain ⟨v, f, rfl, hv, hg, M, hO, hfr⟩ := hrel
      have HGK := Lib.hid hg
      clear hg
      have q0 := hfr.cell s0 hb3m
      by_cases hlt : v < n
      · have hcv := (hO.cellAt (mv_get (f := f) hlt)).1
        simp only [Nat.zero_add] at hcv
        cases hfv : f v with
        | some u =>
          have HFV := Lib.hid hfv
          clear hfv
          have HX := Lib.hid (show Mat n (adjOf es) f ∧ Ow wr 1 (some ⟨bm, 0, none⟩) n n (mv n f) from ⟨M, hO⟩)
          clear hO M
          go_wp2_with (go_at_call 50; refine (free_spec (cm := n) hlt hcv).mono ?_; rintro e w' ⟨rfl, hf2⟩; rw [HFV.out])
          go_roundg (n - (v + 1))
          case measure => rw [HGK.out]; omega
          case rel => exact ⟨v + 1, f, rfl, by omega, rfl, HX.out.1, HX.out.2.fr hf2 fun _ _ => id, hfr.step hf2.any⟩
        | none =>
          have HFV := Lib.hid hfv
          clear hfv
          have HX := Lib.hid (show Mat n (adjOf es) f ∧ Ow wr 1 (some ⟨bm, 0, none⟩) n n (mv n f) from ⟨M, hO⟩)
          clear hO M
          have hN2 : NearT wr (some ⟨bn, 0, none⟩) n (rowsOf es) (fun x => w3.heap.size ≤ x) := HN.out.fr hfr fun b hb e => by rw [e] at hb; omega
          obtain ⟨b', o', hbo, _, Av, cv, hnc, hrd, hAv⟩ := hN2 v hlt
          injection hbo with hbo; injection hbo with e1 e2; subst e1 e2
          simp only [Nat.zero_add] at hnc
          have hrl := rows_len es v
          have HRW := Lib.hid (show ∀ u ∈ rowsOf es v, u < n ∧ adjOf es v u from fun u hu => ⟨(HG.out.gr.lt v u (mem_rowsOf.1 hu)).2, mem_rowsOf.1 hu⟩)
          clear hN2
          generalize rowsOf es v = us at hnc hrd hrl HRW
          have HAV := Lib.hid hAv
          clear hAv
          go_wp2_with (go_at_call 50; refine (free_spec (cm := n) hlt hcv).mono ?_; rintro e w6 ⟨rfl, hf2⟩; rw [HFV.out])
          have q6 := hf2.cell q0 id
          have c6 := hf2.cell hnc id
          have hrd6 := hrd.fr hf2 fun _ _ => id
          have hfr6 : Fr (fun x => x = bm) w4 w6 := hfr.step hf2.any
          have hO6 := HX.out.2.fr hf2 fun _ _ => id
          have hvi : (v : Int) < (n : Int) := by omega
          have hmc : ∀ t, t < n → w6.cell? ⟨bm, t, none⟩ = some (ev (f t)) := fun t ht => by have := (hO6.cellAt (mv_get (f := f) ht)).1; simpa using this
          have HMC := Lib.hid hmc
          have HO6 := Lib.hid hO6
          clear hmc hO6 q0 hnc hrd hf2 hcv
          go_region_held3 (fun w' => w'.cell? ⟨b3, 0, none⟩ = some (.slice (some ⟨bm, 0, none⟩) n n) ∧ w'.cell? ⟨bn, v, none⟩ = some (.slice Av us.length cv))
            (first | (simp [*, World.cell?_setCell_far, World.cell?_alloc_some]; done) | (exact ⟨s1, s2⟩))
            ((go_at_call 51; refine (index_spec (us := us) (f := f) (bm := bm) (cm := n) (hrd6.fr ((Fr.refl No _).drew) fun _ _ => id) (by omega) (fun u hu => (HRW.out u hu).1) (fun t ht => cell_drew (HMC.out t ht))).mono ?_; intro e7 w7 h7; obtain ⟨x7, rfl, hfr7, h7⟩ := h7.uni; have d7 : Fr No w6 w7 := (Fr.refl No w6).drew.step hfr7; have s1 := d7.cell q6 id; have s2 := d7.cell c6 id))
          have hO7 := HO6.out.fr d7 fun _ _ => id
          have hrd7 := hrd6.fr d7 fun _ _ => id
          have hfr8 : Fr (fun x => x = bm) w4 w7 := hfr6.step d7.any
          have HO7 := Lib.hid hO7
          clear hO7 HO6 q6 c6 hrd6 hfr7 d7 hfr6 hfr
          rcases h7 with ⟨i, u, hiu, hu0, rfl⟩ | rfl
          · have hil : i < us.length := (List.getElem?_eq_some_iff.1 hiu).1
            obtain ⟨bv, ov, rfl, hcr⟩ := hrd7.at_ (by rw [List.length_map]; omega)
            have hci := hcr i (iv u) (by rw [List.getElem?_map, hiu]; rfl)
            obtain ⟨hun, hadj⟩ := HRW.out u (List.mem_of_getElem? hiu)
            have hne : v ≠ u := fun e => by subst e; exact HG.out.gr.irr _ hadj
            have M2 := HX.out.1.add HG.out.gr hadj HFV.out hu0
            have hbvm : bv ≠ bm := fun e => by have := HAV.out bv ⟨_, rfl, rfl⟩; omega
            have hbnm : bn ≠ bm := fun e => by omega
            obtain ⟨ca, za⟩ := HO7.out.cellAt (mv_get (f := f) hlt)
            obtain ⟨cb, zb⟩ := HO7.out.cellAt (mv_get (f := f) hun)
            generalize ev (f v) = va at ca
            generalize ev (f u) = vb at cb
            have hO9 := ((HO7.out.set v (ev (some u))).set u (ev (some v)))
            rw [mv_set, mv_set] at hO9
            have hfr9 : Fr (fun x => x = bm) w4 ((w7.setCell ⟨bm, 0 + v, none⟩ (ev (some u))).setCell ⟨bm, 0 + u, none⟩ (ev (some v))).drew := ((hfr8.setCell ⟨bm, 0 + v, none⟩ _ fun _ => rfl).setCell ⟨bm, 0 + u, none⟩ _ fun _ => rfl).drew
            have hO10 := hO9.fr (S := No) ((Fr.refl _ _).drew) fun _ _ => id
            simp only [iv, ev, Nat.zero_add] at hci ca cb za zb hfr9 hO10
            have hil' : (i : Int) < (us.length : Int) := by omega
            have hui : (u : Int) < (n : Int) := by omega
            have hvu : u ≠ v := Ne.symm hne
            have hn3 := hb3m
            have HM2 := Lib.hid M2
            have HN2 := Lib.hid hne
            clear hcr hO9 M2 hiu hu0 hfr8 hadj
            go_wp2_with fail
            go_region_held3 (fun w' => w'.cell? ⟨b3, 0, none⟩ = some (.slice (some ⟨bm, 0, none⟩) n n)) (simp [*, World.cell?_setCell_far, World.cell?_setCell_other]) (fail)
            generalize ((w7.setCell ⟨bm, v, none⟩ (.int .i64 (u : Int))).setCell ⟨bm, u, none⟩ (.int .i64 (v : Int))).drew = w9 at hO10 hfr9 ⊢
            have HO10 := Lib.hid hO10
            clear hO10 ca cb za zb hci hvu hn3 hbvm hbnm
            go_wp2_with fail
            go_roundg (n - (v + 1))
            case measure => rw [HGK.out]; omega
            case rel => exact ⟨v + 1, _, rfl, by omega, rfl, HM2.out, HO10.out, hfr9⟩
          · go_wp2_with fail
            go_roundg (n - (v + 1))
            case measure => rw [HGK.out]; omega
            case rel => exact ⟨v + 1, f, rfl, by omega, rfl, HX.out.1, HO7.out, hfr8⟩
      · have : v = n := by omega
        subst this
        have HX := Lib.hid (show Mat v (adjOf es) f ∧ Ow wr 1 (some ⟨bm, 0, none⟩) v v (mv v f) from ⟨M, hO⟩)
        clear hO M
        go_wp2_with fail
        go_ret
        exact ⟨f, _, v, rfl, HX.out.1, HX.out.2, (fun x ⟨ad, h, hx⟩ => by injection h with h; subst h; subst hx; exact hbm'), fun _ => ⟨bm, rfl⟩, f4.trans hfr fun x hx e => by subst e; omega⟩
end Gar

namespace Gar
open Go Go.RowKit Go.Proofs
set_option maxRecDepth 100000
set_option maxHeartbeats 1600000
variable {w : World} {n : Nat} {adj : Nat → Nat → Prop} {rows : Nat → List Nat}

theorem enlarge_any {An Am : Option Addr} {cn cm : Nat} (hn : n ≤ 200000) (G : Gr n adj) {f : Nat → Option Nat} (M : Mat n adj f) (hrow : ∀ v u, v < n → (adj v u ↔ u ∈ rows v)) (hN : NearT w An n rows (fun b => ¬ InA Am b))
    (hA : 0 < n → ∃ b, Am = some ⟨b, 0, none⟩) (hO : Ow w 1 Am n cm (mv n f)) (hlen : ∀ v, v < n → (rows v).length ≤ 1000000) :
    Calls Try.prog 29 #[.slice An n cn, .slice Am n cm] w (EnlargePost w n adj Am cm) := by
  have HAM := Lib.hid hO.lt
  have HA := Lib.hid hA
  clear hA
  have hn' : n ≤ 1000000 := by omega
  have HN := Lib.hid hN
  have HR := Lib.hid hrow
  have HL := Lib.hid hlen
  clear hN hrow hlen
  go_enter Try.func29, Try.ntmps29
  go_wp2_with fail
  have e0 : ERel w n adj Am cm w.heap.size (w.heap.size + 1) (freeOf n f).length ((w.alloc (Obj.cells #[Value.int IntKind.i64 0, Value.int IntKind.i64 0] 37)).alloc (Obj.cells #[Value.int IntKind.i64 0, Value.int IntKind.i64 0] 37)) := by
    have c6 := Cs.new (w.alloc (Obj.cells #[Value.int IntKind.i64 0, Value.int IntKind.i64 0] 37)) 37 #[Value.int IntKind.i64 0, Value.int IntKind.i64 0]
    have c5 := (Cs.new w 37 #[Value.int IntKind.i64 0, Value.int IntKind.i64 0]).alloc (Obj.cells #[Value.int IntKind.i64 0, Value.int IntKind.i64 0] 37)
    have e6 : (w.alloc (Obj.cells #[Value.int IntKind.i64 0, Value.int IntKind.i64 0] 37)).heap.size = w.heap.size + 1 := by simp
    rw [e6] at c6
    have hfr : Fr No w ((w.alloc (Obj.cells #[Value.int IntKind.i64 0, Value.int IntKind.i64 0] 37)).alloc (Obj.cells #[Value.int IntKind.i64 0, Value.int IntKind.i64 0] 37)) := ((Fr.refl _ _).alloc _).alloc _
    exact ⟨f, 0, 0, 0, 0, M, rfl, hO.fr hfr fun _ _ => id, hfr.any, by rw [c6.cell]; rfl, by rw [c6.cell]; rfl, c6.frozen 0, c6.frozen 1, by rw [c5.cell]; rfl, by rw [c5.cell]; rfl, c5.frozen 0, c5.frozen 1⟩
  obtain ⟨b5, hb5⟩ : ∃ b5, b5 = w.heap.size := ⟨_, rfl⟩
  obtain ⟨b6, hb6⟩ : ∃ b6, b6 = w.heap.size + 1 := ⟨_, rfl⟩
  rw [← hb6, ← hb5] at e0 ⊢
  generalize ((w.alloc (Obj.cells #[Value.int IntKind.i64 0, Value.int IntKind.i64 0] 37)).alloc (Obj.cells #[Value.int IntKind.i64 0, Value.int IntKind.i64 0] 37)) = w1 at e0 ⊢
  have HB5 := Lib.hid hb5
  have HB6 := Lib.hid hb6
  clear hO M hb5 hb6
  go_loopg [] (freeOf n f).length (ERel w n adj Am cm b5 b6)
  case atStart => exact e0
  case round =>
    clear e0
    obtain ⟨f, x, y, x', y', M, hg, hO, hfr, c1, c2, z1, z2, c3, c4, z3, z4⟩ := hrel
    have hnear := (HN.out.fr hfr fun b => id).near
    have hmate : 0 < n → ∃ b, Am = some ⟨b, 0, none⟩ ∧ ∀ v, v < n → wr.cell? ⟨b, v, none⟩ = some (ev (f v)) := fun hp => by
      obtain ⟨b, e⟩ := HA.out hp
      subst e
      exact ⟨b, rfl, fun v hv => by have := (hO.cellAt (mv_get (f := f) hv)).1; simpa using this⟩
    have HG := Lib.hid hg
    clear hg
    go_wp2_with fail
    refine (search_spec hn G M HR.out hnear hmate HL.out).mono ?_
    rintro e w2 ⟨hfr2, lk, hcase⟩
    have hlt5 := World.block_lt_of_cell? wr _ c3
    have hlt6 := World.block_lt_of_cell? wr _ c1
    have d1 := hfr2.cell c1 id
    have d2 := hfr2.cell c2 id
    have y1 : w2.frozen? ⟨b6, 0, none⟩ = false := by simp only [World.frozen?, hfr2.block b6 hlt6 id] at z1 ⊢; exact z1
    have y2 : w2.frozen? ⟨b6, 1, none⟩ = false := by simp only [World.frozen?, hfr2.block b6 hlt6 id] at z2 ⊢; exact z2
    have d3 := hfr2.cell c3 id
    have d4 := hfr2.cell c4 id
    have y3 : w2.frozen? ⟨b5, 0, none⟩ = false := by simp only [World.frozen?, hfr2.block b5 hlt5 id] at z3 ⊢; exact z3
    have y4 : w2.frozen? ⟨b5, 1, none⟩ = false := by simp only [World.frozen?, hfr2.block b5 hlt5 id] at z4 ⊢; exact z4
    have hO2 := hO.fr hfr2 fun _ _ => id
    have hfr3 := hfr.step hfr2.any
    have hun := Try.underlying22
    clear c1 c2 c3 c4 z1 z2 z3 z4 hmate hnear hO hfr
    have hql : ∀ (W : World) (a : Option Addr) (l c : Nat), (binOp .eql 22 (.slice a l c) (.slice none 0 0)).run Try.prog W = .ok (.bool a.isNone) W := fun W a l c => Lib.run_eql_slice_nil W _ _ a l c 0 0 hun
    have h6m : ¬ InA Am b6 := fun h => by have := HAM.out _ h; have := HB6.out; omega
    have h5m : ¬ InA Am b5 := fun h => by have := HAM.out _ h; have := HB5.out; omega
    have h56 : b5 ≠ b6 := by have := HB5.out; have := HB6.out; omega
    have h65 : b6 ≠ b5 := Ne.symm h56
    have hb6w : ¬ b6 < w.heap.size := by have := HB6.out; omega
    have hb5w : ¬ b5 < w.heap.size := by have := HB5.out; omega
    -- what the store of the effort leaves
    have hst : ∀ u v : Int, ∃ w3, w3 = (w2.setCell ⟨b6, 0, none⟩ (.int .i64 u)).setCell ⟨b6, 1, none⟩ (.int .i64 v) ∧ w3.cell? ⟨b6, 0, none⟩ = some (.int .i64 u) ∧ w3.cell? ⟨b6, 1, none⟩ = some (.int .i64 v) ∧
        w3.frozen? ⟨b6, 0, none⟩ = false ∧ w3.frozen? ⟨b6, 1, none⟩ = false ∧ w3.cell? ⟨b5, 0, none⟩ = some (.int .i64 x') ∧ w3.cell? ⟨b5, 1, none⟩ = some (.int .i64 y') ∧ w3.frozen? ⟨b5, 0, none⟩ = false ∧ w3.frozen? ⟨b5, 1, none⟩ = false ∧
        Fr (fun b => b = b6) w2 w3 := by
      intro u v
      refine ⟨_, rfl, ?_, ?_, ?_, ?_, ?_, ?_, ?_, ?_, ((Fr.refl (fun b => b = b6) w2).setCell ⟨b6, 0, none⟩ _ fun _ => rfl).setCell ⟨b6, 1, none⟩ _ fun _ => rfl⟩
      · exact (World.cell?_setCell_other _ _ _ _ (by simp)).trans (World.cell?_setCell_same _ _ _ d1)
      · exact World.cell?_setCell_same _ _ _ ((World.cell?_setCell_other _ _ _ _ (by simp)).trans d2)
      · rw [World.frozen?_setCell, World.frozen?_setCell]; exact y1
      · rw [World.frozen?_setCell, World.frozen?_setCell]; exact y2
      · exact (World.cell?_setCell_far _ _ _ _ h65).trans ((World.cell?_setCell_far _ _ _ _ h65).trans d3)
      · exact (World.cell?_setCell_far _ _ _ _ h65).trans ((World.cell?_setCell_far _ _ _ _ h65).trans d4)
      · rw [World.frozen?_setCell, World.frozen?_setCell]; exact y3
      · rw [World.frozen?_setCell, World.frozen?_setCell]; exact y4
    have HST := Lib.hid hst
    clear hst
    rcases hcase with ⟨p, A, c, hAug, rfl, hOp, hAp⟩ | ⟨S, rep, b, hOk, hSt, rfl, hb, hOb⟩
    · obtain ⟨M', hless, hnd, hpn, hev⟩ := hAug.turn G M
      have hne : 0 < p.length := by
        obtain ⟨v, u, r, s, lv, lw, rfl, _⟩ := hAug
        simp
      obtain ⟨bp, op, rfl⟩ := hOp.some hne
      have hpl : p.length ≤ n := nodup_le hnd hpn
      have HPL := Lib.hid hpl
      have HPL := Lib.hid hpl
      clear hAug hpl
      go_wp2_with fail
      all_goals
        first
          | (obtain ⟨w3, hw3, c1, c2, z1, z2, c3, c4, z3, z4, hfr4⟩ := HST.out (wrap64 (x + 1)) y; rw [← hw3]; clear hw3)
          | (obtain ⟨w3, hw3, c1, c2, z1, z2, c3, c4, z3, z4, hfr4⟩ := HST.out (wrap64 (x + 1)) lk; rw [← hw3]; clear hw3)
        have hO3 := hO2.fr hfr4 fun b hb e => by rw [e] at hb; exact h6m hb
        have hOp3 := hOp.rd.fr hfr4 fun b hb e => by have h1 := hAp b hb; omega
        clear d1 d2 d3 d4 y1 y2 y3 y4
        refine (turn_spec hO3 hOp3 (fun b hb h => by have h1 := hAp b hb; have h2 := HAM.out b h
                                                     have h3 := hfr3.size; omega) hnd hpn hev (by have := HPL.out; omega) hn').mono ?_
        rintro e w4 ⟨rfl, hO4, hfr5⟩
        have hfr6 : Fr (InA Am) w w4 := (hfr3.trans hfr4 fun x hx e => absurd hx (by rw [e]; exact hb6w)).step hfr5
        have c1' := hfr5.cell c1 h6m
        have c2' := hfr5.cell c2 h6m
        have c3' := hfr5.cell c3 h5m
        have c4' := hfr5.cell c4 h5m
        have l6 := World.block_lt_of_cell? w3 _ c1
        have l5 := World.block_lt_of_cell? w3 _ c3
        have z1' : w4.frozen? ⟨b6, 0, none⟩ = false := by simp only [World.frozen?, hfr5.block b6 l6 h6m] at z1 ⊢; exact z1
        have z2' : w4.frozen? ⟨b6, 1, none⟩ = false := by simp only [World.frozen?, hfr5.block b6 l6 h6m] at z2 ⊢; exact z2
        have z3' : w4.frozen? ⟨b5, 0, none⟩ = false := by simp only [World.frozen?, hfr5.block b5 l5 h5m] at z3 ⊢; exact z3
        have z4' : w4.frozen? ⟨b5, 1, none⟩ = false := by simp only [World.frozen?, hfr5.block b5 l5 h5m] at z4 ⊢; exact z4
        clear c1 c2 c3 c4 z1 z2 z3 z4
        have HL' := Lib.hid hless
        clear hless
        go_wp2_with fail
        go_roundg (freeOf n (turnF p f)).length
        case measure => rw [HG.out]; exact HL'.out
        case rel => exact ⟨turnF p f, _, _, x', y', M', rfl, hO4, hfr6, c1', c2', z1', z2', c3', c4', z3', z4'⟩
    · go_wp2_with fail
      all_goals
        first
          | (obtain ⟨w3, hw3, c1, c2, z1, z2, c3, c4, z3, z4, hfr4⟩ := HST.out (wrap64 (x + 1)) y; rw [← hw3]; clear hw3)
          | (obtain ⟨w3, hw3, c1, c2, z1, z2, c3, c4, z3, z4, hfr4⟩ := HST.out (wrap64 (x + 1)) lk; rw [← hw3]; clear hw3)
        have hO3 := hO2.fr hfr4 fun b hb e => by rw [e] at hb; exact h6m hb
        have hOb3 := hOb.fr hfr4 fun x hx e => by
          obtain ⟨ad, e', h⟩ := hx; injection e' with e'; subst e'; simp only at h; omega
        have hfr5 : Fr (InA Am) w w3 := hfr3.trans hfr4 fun x hx e => absurd hx (by rw [e]; exact hb6w)
        clear d1 d2 d3 d4 y1 y2 y3 y4
        go_region
        have g1 := World.cell?_setCell_same w3 ⟨b5, 0, none⟩ (.int .i64 (wrap64 (x + 1))) c3
        first
          | (obtain ⟨w4, hw4⟩ : ∃ w4, w4 = ((w3.setCell ⟨b5, 0, none⟩ (.int .i64 (wrap64 (x + 1)))).setCell ⟨b5, 1, none⟩ (.int .i64 y)).drew := ⟨_, rfl⟩
             rw [← hw4])
          | (obtain ⟨w4, hw4⟩ : ∃ w4, w4 = ((w3.setCell ⟨b5, 0, none⟩ (.int .i64 (wrap64 (x + 1)))).setCell ⟨b5, 1, none⟩ (.int .i64 lk)).drew := ⟨_, rfl⟩
             rw [← hw4])
        have hfr6 : Fr (fun b => b = b5) w3 w4 := by rw [hw4]; exact (((Fr.refl (fun b => b = b5) w3).setCell ⟨b5, 0, none⟩ _ fun _ => rfl).setCell ⟨b5, 1, none⟩ _ fun _ => rfl).drew
        obtain ⟨z, hc6⟩ : ∃ z : Int, w4.cell? ⟨b5, 1, none⟩ = some (.int .i64 z) := by
          rw [hw4]; exact ⟨_, World.cell?_setCell_same _ _ _ ((World.cell?_setCell_other _ _ _ _ (by simp)).trans c4)⟩
        have hc5 : w4.cell? ⟨b5, 0, none⟩ = some (.int .i64 (wrap64 (x + 1))) := by
          rw [hw4]; exact (World.cell?_setCell_other _ _ _ _ (by simp)).trans g1
        clear hw4 g1 c1 c2 c3 c4 z1 z2 z3 z4
        have hO4 := hO3.fr hfr6 fun b hb e => by rw [e] at hb; exact h5m hb
        have hOb4 := hOb3.fr hfr6 fun x hx e => by
          obtain ⟨ad, e', h⟩ := hx; injection e' with e'; subst e'; simp only at h; omega
        have hfr7 : Fr (InA Am) w w4 := hfr5.trans hfr6 fun x hx e => absurd hx (by rw [e]; exact hb5w)
        go_wp2_with fail
        (try simp only [Exit.inBlock, Exit.then])
        refine bodyPost_ret (v := .tuple #[.slice (some ⟨b, 0, none⟩) (S.labels n).length (S.labels n).length, .agg #[.int .i64 (wrap64 (x + 1)), .int .i64 z]]) ?_ rfl ?_
        · rw [results_tmp_cell rfl]; go_simp
        · exact ⟨f, S, rep, b, _, _, M, hOk, hSt, rfl, by have := HB5.out; omega, hOb4, hO4, hfr7⟩
end Gar

namespace Gar
open Go Go.RowKit Go.Proofs
set_option maxRecDepth 100000
set_option maxHeartbeats 1600000
variable {w : World} {n : Nat} {es : List (Nat × Nat)}

theorem results_tmp_cell_tmp {fn : Func} {p u v : Tmp} {ty : TypeId} (h : fn.results = #[.tmp u, .cell p ty, .tmp v]) (tmps : Array Value) (P : Program) (w : World) :
    (results fn tmps).run P w = ((asAddr (tmps.getD p undef)).run P w).andThen fun a w1 => ((loadVar ty a).run P w1).andThen fun x w2 => .ok (.tuple #[tmps.getD u undef, x, tmps.getD v undef]) w2 := by
  simp only [results, h]
  simp [Sem.run_bind, Result.andThen]

/-- What is known of a largest matching. -/
def Best (n : Nat) (es : List (Nat × Nat)) (f : Nat → Option Nat) : Prop := Mat n (adjOf es) f ∧ ∃ S rep, FOk n (adjOf es) f S rep ∧ Still n (adjOf es) f (S.st rep)

def LargePost (w : World) (n : Nat) (es : List (Nat × Nat)) (e : Ending) (w' : World) : Prop :=
  ∃ f A c, ∃ x y : Int, Best n es f ∧ e = .returned (.tuple #[.slice A n c, .agg #[.int .i64 x, .int .i64 y], .int .i64 0]) ∧ Ow w' 1 A n c (mv n f) ∧ (∀ x, InA A x → w.heap.size ≤ x) ∧ (0 < n → ∃ b, A = some ⟨b, 0, none⟩) ∧ Fr No w w'

theorem largest_spec {Ae : Option Addr} {ce : Nat} (hG : Good n es) (hR : Rd w 2 Ae es.length (cellsOf es)) :
    Calls Try.prog 10 #[.agg #[.int .i64 (n : Int), .slice Ae es.length ce]] w (LargePost w n es) := by
  have hn := hG.n_le
  have hm := hG.m_le
  have f1 : Fr No w ((w.alloc (.cells #[.int .i64 (n : Int), .slice Ae es.length ce] 25)).alloc (.cells #[.int .i64 0, .int .i64 0] 37)) := ((Fr.refl _ _).alloc _).alloc _
  have c1 := (Cs.new w 25 #[.int .i64 (n : Int), .slice Ae es.length ce]).alloc (.cells #[.int .i64 0, .int .i64 0] 37)
  have c3 := Cs.new (w.alloc (.cells #[.int .i64 (n : Int), .slice Ae es.length ce] 25)) 37 #[.int .i64 0, .int .i64 0]
  have e3 : (w.alloc (.cells #[.int .i64 (n : Int), .slice Ae es.length ce] 25)).heap.size = w.heap.size + 1 := by simp
  rw [e3] at c3
  have hR1 := hR.fr f1 fun _ _ => id
  have HG := Lib.hid hG
  have HR := Lib.hid hR1
  clear hR hR1 hG e3
  go_enter Try.func10, Try.ntmps10
  go_upto_region 1 with (fail)
  generalize (w.alloc (.cells #[.int .i64 (n : Int), .slice Ae es.length ce] 25)).alloc (.cells #[.int .i64 0, .int .i64 0] 37) = w1 at f1 c1 c3 HR ⊢
  obtain ⟨b3, hb3⟩ : ∃ b, b = w.heap.size + 1 := ⟨_, rfl⟩
  rw [← hb3] at c3 ⊢
  obtain ⟨b1, hb1⟩ : ∃ b, b = w.heap.size := ⟨_, rfl⟩
  rw [← hb1] at c1 ⊢
  have hsz3 : w.heap.size ≤ b3 := by omega
  have g0 := c1.cell 0
  have g1 := c1.cell 1
  simp only [List.getElem?_toArray, List.getElem?_cons_zero, List.getElem?_cons_succ] at g0 g1
  have C3 := Lib.hid c3
  clear c1 c3 hb1 hb3
  go_wp2_with fail
  refine (right_spec HG.out HR.out).mono ?_
  rintro e w2 ⟨rfl, hfr2⟩
  have g0 := hfr2.cell g0 id
  have g1 := hfr2.cell g1 id
  have hR2 := HR.out.fr hfr2 fun _ _ => id
  have HR2 := Lib.hid hR2
  clear hR2
  go_wp2_with fail
  refine (first_spec' HG.out HR2.out).mono ?_
  rintro e w3 ⟨f, A, c, rfl, M, hO, hA, hA0, hfr3⟩
  have g0 := hfr3.cell g0 id
  have g1 := hfr3.cell g1 id
  have hfr4 := hfr2.step hfr3
  have hlt3 : b3 < w2.heap.size := Nat.lt_of_lt_of_le C3.out.lt hfr2.size
  have HX := Lib.hid (show Mat n (adjOf es) f ∧ Ow w3 1 A n c (mv n f) ∧ (∀ x, InA A x → w2.heap.size ≤ x) ∧ (0 < n → ∃ b, A = some ⟨b, 0, none⟩) from ⟨M, hO, hA, hA0⟩)
  have hR3 := HR2.out.fr hfr3 fun _ _ => id
  have HR3 := Lib.hid hR3
  clear M hO hA hA0 hR3 hfr3
  go_wp2_with fail
  refine (lists_spec HG.out HR3.out).mono ?_
  rintro e w4 ⟨bn, An, cn, rfl, hbn, hOR, hfr5⟩
  have HN := Lib.hid (hOR.nearT hbn)
  have HO4 := Lib.hid (HX.out.2.1.fr hfr5 fun _ _ => id)
  have hfr6 := hfr4.step hfr5
  clear hOR hfr5
  go_wp2_with fail
  refine (enlarge_any (rows := rowsOf es) (by omega) HG.out.gr HX.out.1 (fun v u hv => mem_rowsOf.symm) (fun v hv => by
    obtain ⟨b, o, h1, h2, A', c', h3, h4, h5⟩ := HN.out v hv
    exact ⟨b, o, h1, fun h => by have := HX.out.2.1.lt b h; omega, A', c', h3, h4, fun x hx h => by have := h5 x hx; have := HX.out.2.1.lt x h; omega⟩) HX.out.2.2.2 HO4.out (fun v hv => by have := rows_len es v; omega)).mono ?_
  rintro e w5 ⟨f2, S, rep, b, x, y, M2, hOk, hSt, rfl, hb, hOb, hO5, hfr7⟩
  have hfr8 : Fr No w1 w5 := hfr6.trans hfr7 fun x hx h => by have h1 := HX.out.2.2.1 x h; have h2 := hfr2.size; omega
  have HB := Lib.hid (show Best n es f2 from ⟨M2, S, rep, hOk, hSt⟩)
  have HO5 := Lib.hid hO5
  have hfrw := f1.step hfr8
  have c3 := C3.out.fr hfr8 id
  have r0 := c3.cell 0
  have r1 := c3.cell 1
  have z0 := c3.frozen 0
  have z1 := c3.frozen 1
  simp only [List.getElem?_toArray, List.getElem?_cons_zero, List.getElem?_cons_succ] at r0 r1
  have hlt5 := c3.lt
  clear M2 hOk hSt hOb hO5 hb hfr7 hfr8 hfr6 hfr4 f1 c3 g0 g1
  go_upto_region 5 with (fail)
  have t0 := (Cs.new w5 37 #[.int .i64 x, .int .i64 y]).cell 0
  have t1 := (Cs.new w5 37 #[.int .i64 x, .int .i64 y]).cell 1
  simp only [List.getElem?_toArray, List.getElem?_cons_zero, List.getElem?_cons_succ] at t0 t1
  have y0 := frz_alloc r0 z0 (.cells #[.int .i64 x, .int .i64 y] 37)
  have y1 := frz_alloc r1 z1 (.cells #[.int .i64 x, .int .i64 y] 37)
  have r0 := cell_alloc r0 (.cells #[.int .i64 x, .int .i64 y] 37)
  have r1 := cell_alloc r1 (.cells #[.int .i64 x, .int .i64 y] 37)
  have hfrw := hfrw.alloc (.cells #[.int .i64 x, .int .i64 y] 37)
  have HO6 := Lib.hid (HO5.out.fr ((Fr.refl No _).alloc (.cells #[.int .i64 x, .int .i64 y] 37)) fun _ _ => id)
  generalize w5.alloc (.cells #[.int .i64 x, .int .i64 y] 37) = w6 at t0 t1 y0 y1 r0 r1 hfrw HO6 ⊢
  have h57 : b3 ≠ w5.heap.size := by omega
  generalize w5.heap.size = b7 at t0 t1 h57 ⊢
  clear z0 z1
  go_region_held3 (fun w' => w'.cell? ⟨b7, 0, none⟩ = some (.int .i64 x) ∧ w'.cell? ⟨b7, 1, none⟩ = some (.int .i64 y)) (simp [*, World.cell?_setCell_far, World.cell?_setCell_other]) (fail)
  obtain ⟨w9, hw9, s0, s1, hfr9⟩ := set2_cells (.int .i64 x) (.int .i64 y) r0 r1
  rw [← hw9]
  have s0 := cell_drew s0
  have s1 := cell_drew s1
  have hA9 : ∀ z, InA A z → w2.heap.size ≤ z := HX.out.2.2.1
  have hO9 := (HO6.out.fr hfr9 fun z hz e => by have := hA9 z hz; omega).fr ((Fr.refl No _).drew) fun _ _ => id
  have HO9 := Lib.hid hO9
  have hfr10 : Fr No w w9.drew := (hfrw.new hfr9 fun z e => by rw [e]; exact hsz3).drew
  clear hw9 r0 r1 y0 y1 t0 t1 hO9 hfr9 hfrw
  generalize w9.drew = w10 at s0 s1 HO9 hfr10 ⊢
  go_wp2_with fail
  refine bodyPost_ret (v := .tuple #[.slice A n c, .agg #[.int .i64 x, .int .i64 y], .int .i64 0]) (by rw [results_tmp_cell_tmp rfl]; go_simp) rfl ?_
  exact ⟨f2, A, c, x, y, HB.out, rfl, HO9.out, fun z hz => by have := hA9 z hz; omega, HX.out.2.2.2, hfr10⟩
end Gar

namespace Gar
open Go Go.RowKit Go.Proofs
set_option maxRecDepth 100000
set_option maxHeartbeats 1600000
variable {w : World} {n : Nat} {es : List (Nat × Nat)}

theorem Best.most (G : Gr n (adjOf es)) {f g : Nat → Option Nat} (h : Best n es f) (M : Mat n (adjOf es) g) : (freeOf n f).length ≤ (freeOf n g).length := by
  obtain ⟨M0, S, rep, hOk, hSt⟩ := h
  obtain ⟨ord, I⟩ := hOk.inv
  exact still_most G M0 I hSt M
theorem Best.noAug (G : Gr n (adjOf es)) {f : Nat → Option Nat} (h : Best n es f) {p : List Nat} (hp : Aug n (adjOf es) f p) : False := by
  obtain ⟨M', hless, _⟩ := hp.turn G h.1
  have := h.most G M'
  omega

/-- What a forest that can grow no more says of a matching. -/
def Told (n : Nat) (es : List (Nat × Nat)) (f : Nat → Option Nat) (S : FS) : Prop := Mat n (adjOf es) f ∧ ∃ rep, FOk n (adjOf es) f S rep ∧ Still n (adjOf es) f (S.st rep)

def LabsAt (w w' : World) (n : Nat) (S : FS) (b : Nat) : Prop := Ow w' 1 (some ⟨b, 0, none⟩) (S.labels n).length (S.labels n).length ((S.labels n).map iv) ∧ w.heap.size ≤ b

def PathPost (w : World) (n : Nat) (es : List (Nat × Nat)) (f : Nat → Option Nat) (e : Ending) (w' : World) : Prop :=
  ∃ S b, Told n es f S ∧ e = .returned (.tuple #[.slice none 0 0, .slice (some ⟨b, 0, none⟩) (S.labels n).length (S.labels n).length, .int .i64 0]) ∧ LabsAt w w' n S b ∧ Fr No w w'

theorem path_spec {Ae Am : Option Addr} {ce cm : Nat} {f : Nat → Option Nat} (hG : Good n es) (hR : Rd w 2 Ae es.length (cellsOf es)) (hB : Best n es f) (hO : Ow w 1 Am n cm (mv n f)) (hA : 0 < n → ∃ b, Am = some ⟨b, 0, none⟩) :
    Calls Try.prog 45 #[.agg #[.int .i64 (n : Int), .slice Ae es.length ce], .slice Am n cm] w (PathPost w n es f) := by
  have hn := hG.n_le
  have hm := hG.m_le
  have f1 : Fr No w (w.alloc (.cells #[.int .i64 (n : Int), .slice Ae es.length ce] 25)) := (Fr.refl _ _).alloc _
  have cg := Cs.new w 25 #[.int .i64 (n : Int), .slice Ae es.length ce]
  have g0 := cg.cell 0
  have g1 := cg.cell 1
  simp only [List.getElem?_toArray, List.getElem?_cons_zero, List.getElem?_cons_succ] at g0 g1
  have hR1 := hR.fr f1 fun _ _ => id
  have hO1 := hO.fr f1 fun _ _ => id
  have HG := Lib.hid hG
  have HR := Lib.hid hR1
  have HO := Lib.hid hO1
  have HB := Lib.hid hB
  have HA := Lib.hid hA
  clear cg hR hR1 hG hO hO1 hB hA
  go_enter Try.func45, Try.ntmps45
  go_upto_region 1 with (fail)
  generalize w.alloc (.cells #[.int .i64 (n : Int), .slice Ae es.length ce] 25) = w1 at f1 g0 g1 HR HO ⊢
  generalize w.heap.size = b1 at g0 g1 ⊢
  go_wp2_with fail
  refine (right_spec HG.out HR.out).mono ?_
  rintro e w2 ⟨rfl, hfr2⟩
  have g0 := hfr2.cell g0 id
  have g1 := hfr2.cell g1 id
  have f2 := f1.step hfr2
  have HR2 := Lib.hid (HR.out.fr hfr2 fun _ _ => id)
  have HO2 := Lib.hid (HO.out.fr hfr2 fun _ _ => id)
  clear hfr2 f1
  go_wp2_with fail
  refine (mright_spec HG.out HR2.out HB.out.1 HO2.out).mono ?_
  rintro e w3 ⟨rfl, hfr3⟩
  have g0 := hfr3.cell g0 id
  have g1 := hfr3.cell g1 id
  have f3 := f2.step hfr3
  have HR3 := Lib.hid (HR2.out.fr hfr3 fun _ _ => id)
  have HO3 := Lib.hid (HO2.out.fr hfr3 fun _ _ => id)
  clear hfr3 f2
  go_wp2_with fail
  refine (lists_spec HG.out HR3.out).mono ?_
  rintro e w4 ⟨bn, An, cn, rfl, hbn, hOR, hfr4⟩
  have HN := Lib.hid (hOR.nearT hbn)
  have HO4 := Lib.hid (HO3.out.fr hfr4 fun _ _ => id)
  have f4 := f3.step hfr4
  clear hOR hfr4 f3 g0 g1
  go_wp2_with fail
  refine (search_spec (by omega) HG.out.gr HB.out.1 (rows := rowsOf es) (fun v u hv => mem_rowsOf.symm) HN.out.near (fun hp => by
    obtain ⟨b, e⟩ := HA.out hp
    subst e
    exact ⟨b, rfl, fun v hv => by have := (HO4.out.cellAt (mv_get (f := f) hv)).1; simpa using this⟩) (fun v hv => by have := rows_len es v; omega)).mono ?_
  rintro e w5 ⟨hfr5, lk, ⟨p, A, c, hAug, _⟩ | ⟨S, rep, b, hOk, hSt, rfl, hb, hOb⟩⟩
  · exact absurd hAug fun h => HB.out.noAug HG.out.gr h
  · have HX := Lib.hid (show Told n es f S ∧ LabsAt w w5 n S b ∧ Fr No w w5 from ⟨⟨HB.out.1, rep, hOk, hSt⟩, ⟨hOb, Nat.le_trans f4.size hb⟩, f4.step hfr5⟩)
    clear hOk hSt hOb hfr5 f4 hb
    go_wp2_with fail
    go_ret3
    exact ⟨S, b, HX.out.1, rfl, HX.out.2.1, HX.out.2.2⟩

def Labels2Post (w : World) (n : Nat) (es : List (Nat × Nat)) (e : Ending) (w' : World) : Prop :=
  ∃ f S b A c, Told n es f S ∧ e = .returned (.tuple #[.slice (some ⟨b, 0, none⟩) (S.labels n).length (S.labels n).length, .slice A n c, .int .i64 0]) ∧ LabsAt w w' n S b ∧ Fr No w w'

theorem labels2_spec {Ae : Option Addr} {ce : Nat} (hG : Good n es) (hR : Rd w 2 Ae es.length (cellsOf es)) :
    Calls Try.prog 23 #[.agg #[.int .i64 (n : Int), .slice Ae es.length ce]] w (Labels2Post w n es) := by
  have f1 : Fr No w (w.alloc (.cells #[.int .i64 (n : Int), .slice Ae es.length ce] 25)) := (Fr.refl _ _).alloc _
  have cg := Cs.new w 25 #[.int .i64 (n : Int), .slice Ae es.length ce]
  have g0 := cg.cell 0
  have g1 := cg.cell 1
  simp only [List.getElem?_toArray, List.getElem?_cons_zero, List.getElem?_cons_succ] at g0 g1
  have HG := Lib.hid hG
  have HR := Lib.hid (hR.fr f1 fun _ _ => id)
  clear cg hR hG
  go_enter Try.func23, Try.ntmps23
  go_upto_region 1 with (fail)
  generalize w.alloc (.cells #[.int .i64 (n : Int), .slice Ae es.length ce] 25) = w1 at f1 g0 g1 HR ⊢
  generalize w.heap.size = b1 at g0 g1 ⊢
  go_wp2_with fail
  refine (largest_spec HG.out HR.out).mono ?_
  rintro e w2 ⟨f, A, c, x, y, hB, rfl, hO, hA, hA0, hfr2⟩
  have HX := Lib.hid (show Best n es f ∧ (0 < n → ∃ b, A = some ⟨b, 0, none⟩) from ⟨hB, hA0⟩)
  have g0 := cell_alloc (hfr2.cell g0 id) (.cells #[.int .i64 x, .int .i64 y] 37)
  have g1 := cell_alloc (hfr2.cell g1 id) (.cells #[.int .i64 x, .int .i64 y] 37)
  have hal : Fr No w2 (w2.alloc (.cells #[.int .i64 x, .int .i64 y] 37)) := (Fr.refl _ _).alloc _
  have HR2 := Lib.hid ((HR.out.fr hfr2 fun _ _ => id).fr hal fun _ _ => id)
  have HO2 := Lib.hid (hO.fr hal fun _ _ => id)
  have f2 := (f1.step hfr2).step hal
  clear hB hA hA0 hO hfr2 hal
  go_upto_region 4 with (fail)
  generalize w2.alloc (.cells #[.int .i64 x, .int .i64 y] 37) = w3 at g0 g1 HR2 HO2 f2 ⊢
  generalize w2.heap.size = b6 at *
  go_wp2_with fail
  refine (path_spec HG.out HR2.out HX.out.1 HO2.out HX.out.2).mono ?_
  rintro e w4 ⟨S, b, hT, rfl, hL, hfr4⟩
  have HY := Lib.hid (show Told n es f S ∧ LabsAt w w4 n S b ∧ Fr No w w4 from ⟨hT, ⟨hL.1, Nat.le_trans f2.size hL.2⟩, f2.step hfr4⟩)
  clear hT hL hfr4 f2 f1 g0 g1
  go_wp2_with fail
  go_ret3
  exact ⟨f, S, b, A, c, HY.out.1, rfl, HY.out.2.1, HY.out.2.2⟩
end Gar

namespace Gar
open Go Go.RowKit Go.Proofs
set_option maxRecDepth 100000
set_option maxHeartbeats 1600000
variable {w : World} {n : Nat} {es : List (Nat × Nat)}

/-- Vertices by their label. -/
def FS.dB (S : FS) (v : Nat) : Bool := S.outer v || S.label v == 1
def FS.aB (S : FS) (v : Nat) : Bool := S.label v == 2 && !S.outer v
def FS.cB (S : FS) (v : Nat) : Bool := S.label v == 0 && !S.outer v

theorem labels_len (S : FS) (n : Nat) : (S.labels n).length = n := by simp [FS.labels]
theorem labels_get {S : FS} {n v : Nat} (h : v < n) : (S.labels n)[v]? = some (if S.outer v then 1 else S.label v) := by simp [FS.labels, h]
theorem labels_filter (S : FS) (n l : Nat) (q : Nat → Bool) (h : ∀ v, ((if S.outer v then 1 else S.label v) == l) = q v) :
    ((List.range (S.labels n).length).filter fun v => (S.labels n)[v]? == some l) = setOf n q := by
  rw [labels_len]
  unfold setOf
  apply List.filter_congr
  intro v hv
  rw [labels_get (List.mem_range.1 hv), ← h v]
  simp
theorem labels_odd (S : FS) (n : Nat) : ((List.range (S.labels n).length).filter fun v => (S.labels n)[v]? == some 2) = setOf n S.aB := labels_filter S n 2 _ fun v => by
  unfold FS.aB; cases S.outer v <;> simp
theorem labels_even (S : FS) (n : Nat) : ((List.range (S.labels n).length).filter fun v => (S.labels n)[v]? == some 1) = setOf n S.dB := labels_filter S n 1 _ fun v => by
  unfold FS.dB; cases S.outer v <;> simp
theorem labels_out (S : FS) (n : Nat) : ((List.range (S.labels n).length).filter fun v => (S.labels n)[v]? == some 0) = setOf n S.cB := labels_filter S n 0 _ fun v => by
  unfold FS.cB; cases S.outer v <;> simp

def OfPost (w : World) (n : Nat) (es : List (Nat × Nat)) (e : Ending) (w' : World) : Prop :=
  ∃ f S A c, Told n es f S ∧ e = .returned (.tuple #[.slice A (setOf n S.aB).length c, .int .i64 0]) ∧ Ow w' 1 A (setOf n S.aB).length c ((setOf n S.aB).map iv) ∧ (∀ x, InA A x → w.heap.size ≤ x) ∧ Fr No w w'

theorem of_spec {Ae : Option Addr} {ce : Nat} (hG : Good n es) (hR : Rd w 2 Ae es.length (cellsOf es)) :
    Calls Try.prog 16 #[.agg #[.int .i64 (n : Int), .slice Ae es.length ce]] w (OfPost w n es) := by
  have f1 : Fr No w (w.alloc (.cells #[.int .i64 (n : Int), .slice Ae es.length ce] 25)) := (Fr.refl _ _).alloc _
  have hn := hG.n_le
  have HG := Lib.hid hG
  have HR := Lib.hid (hR.fr f1 fun _ _ => id)
  clear hR hG
  go_enter Try.func16, Try.ntmps16
  go_wp2_with fail
  refine (labels2_spec HG.out HR.out).mono ?_
  rintro e w2 ⟨f, S, b, A, c, hT, rfl, hL, hfr2⟩
  have hlen := labels_len S n
  have hod := labels_odd S n
  have HT := Lib.hid hT
  have f2 := f1.step hfr2
  have HL := Lib.hid hL.1
  have HOD := Lib.hid hod
  have hle : (S.labels n).length ≤ 1000000 := by omega
  clear hT hL hfr2 f1 hlen hod
  generalize S.labels n = ls at HL HOD hle ⊢
  go_wp2_with fail
  refine (suchl_spec (l0 := 2) hle HL.out.rd).mono ?_
  rintro e w3 ⟨x, rfl, ⟨A3, c3, rfl, hO3, hA3⟩, hfr3⟩
  rw [HOD.out] at hO3 ⊢
  have HX := Lib.hid (show Ow w3 1 A3 (setOf n S.aB).length c3 ((setOf n S.aB).map iv) ∧ (∀ x, InA A3 x → w.heap.size ≤ x) ∧ Fr No w w3 from ⟨hO3, fun x hx => Nat.le_trans f2.size (hA3 x hx), f2.step hfr3⟩)
  clear hO3 hA3 hfr3 f2
  go_wp2_with fail
  go_ret2
  exact ⟨f, S, A3, c3, HT.out, rfl, HX.out.1, HX.out.2.1, HX.out.2.2⟩

def NumPost (w : World) (n : Nat) (es : List (Nat × Nat)) (e : Ending) (w' : World) : Prop :=
  ∃ f, Best n es f ∧ e = .returned (.tuple #[.int .i64 ((sizeOf' n f : Nat) : Int), .int .i64 0]) ∧ Fr No w w'

theorem number_spec {Ae : Option Addr} {ce : Nat} (hG : Good n es) (hR : Rd w 2 Ae es.length (cellsOf es)) :
    Calls Try.prog 15 #[.agg #[.int .i64 (n : Int), .slice Ae es.length ce]] w (NumPost w n es) := by
  have f1 : Fr No w (w.alloc (.cells #[.int .i64 (n : Int), .slice Ae es.length ce] 25)) := (Fr.refl _ _).alloc _
  have hn := hG.n_le
  have HG := Lib.hid hG
  have HR := Lib.hid (hR.fr f1 fun _ _ => id)
  clear hR hG
  go_enter Try.func15, Try.ntmps15
  go_wp2_with fail
  refine (largest_spec HG.out HR.out).mono ?_
  rintro e w2 ⟨f, A, c, x, y, hB, rfl, hO, hA, hA0, hfr2⟩
  have hal : Fr No w2 (w2.alloc (.cells #[.int .i64 x, .int .i64 y] 37)) := (Fr.refl _ _).alloc _
  have HX := Lib.hid (show Best n es f ∧ Ow (w2.alloc (.cells #[.int .i64 x, .int .i64 y] 37)) 1 A n c (mv n f) ∧ (0 < n → ∃ b, A = some ⟨b, 0, none⟩) from ⟨hB, hO.fr hal fun _ _ => id, hA0⟩)
  have f2 := (f1.step hfr2).step hal
  clear hB hO hA hA0 hfr2 hal f1
  go_upto_region 2 with (fail)
  generalize w2.alloc (.cells #[.int .i64 x, .int .i64 y] 37) = w3 at HX f2 ⊢
  generalize w2.heap.size = b5 at *
  go_wp2_with (go_at_call 33; refine (size_spec HG.out.gr HX.out.1.1 (by omega) HX.out.2.1 HX.out.2.2).mono ?_; rintro e w4 ⟨rfl, hfr4⟩)
  go_ret2
  exact ⟨f, HX.out.1, rfl, f2.step hfr4⟩
end Gar

namespace Gar
section
variable {n : Nat} {es : List (Nat × Nat)}

theorem free_matched (n : Nat) (f : Nat → Option Nat) : (freeOf n f).length + ((List.range n).filter fun v => (f v).isSome).length = n := by
  have : ∀ l : List Nat, (l.filter fun v => (f v).isNone).length + (l.filter fun v => (f v).isSome).length = l.length := by
    intro l
    induction l with
    | nil => rfl
    | cons a l ih => simp only [List.filter_cons]; cases h : f a <;> simp_all <;> omega
  have := this (List.range n)
  rw [List.length_range] at this
  exact this
theorem matched_two {adj : Nat → Nat → Prop} {f : Nat → Option Nat} (G : Gr n adj) (M : Mat n adj f) : ((List.range n).filter fun v => (f v).isSome).length = 2 * sizeOf' n f := by
  have := even_of_paired (fun v => (f v).getD 0) _ ((List.range n).filter fun v => (f v).isSome) (Nat.le_refl _) (List.nodup_range.filter _) (fun v hv => by
    simp only [List.mem_filter, List.mem_range] at hv
    obtain ⟨u, hu⟩ := Option.isSome_iff_exists.1 hv.2
    have hs := M.sym _ _ hu
    simp only [hu, Option.getD_some, List.mem_filter, List.mem_range]
    refine ⟨⟨(M.lt _ _ hu).2, by rw [hs]; rfl⟩, by rw [hs]; rfl, fun e => ?_⟩
    subst e; exact G.irr _ (M.adj _ _ hu))
  unfold sizeOf'; omega
theorem Best.same (G : Gr n (adjOf es)) {f g : Nat → Option Nat} (h : Best n es f) (k : Best n es g) : (freeOf n f).length = (freeOf n g).length :=
  Nat.le_antisymm (h.most G k.1) (k.most G h.1)
theorem Best.size_eq (G : Gr n (adjOf es)) {f g : Nat → Option Nat} (h : Best n es f) (k : Best n es g) : sizeOf' n f = sizeOf' n g := by
  have a := h.same G k
  have b := free_matched n f
  have c := free_matched n g
  unfold sizeOf'; omega
theorem Told.best {f : Nat → Option Nat} {S : FS} (h : Told n es f S) : Best n es f := ⟨h.1, S, h.2⟩
theorem setOf_rises (n : Nat) (T : Nat → Bool) : (setOf n T).Pairwise (· < ·) := (List.pairwise_lt_range).filter _
theorem setOf_lt {T : Nat → Bool} : ∀ v ∈ setOf n T, v < n := fun _ hv => (mem_setOf.1 hv).1

theorem Told.lack (G : Gr n (adjOf es)) {f : Nat → Option Nat} {S : FS} (hT : Told n es f S) {L : List (List Nat)} (hL : Pieces n (adjOf es) (fun v => v < n ∧ v ∉ setOf n S.aB) L) : sumOdd L = (freeOf n f).length + (setOf n S.aB).length := by
  obtain ⟨M, rep, hOk, hSt⟩ := hT
  obtain ⟨ord, I⟩ := hOk.inv
  have hP : (fun v => v < n ∧ v ∉ setOf n S.aB) = (fun u => u < n ∧ (S.st rep).odd u = false) := by
    funext v
    apply propext
    have : (S.st rep).odd v = S.aB v := rfl
    rw [this, mem_setOf]
    constructor
    · rintro ⟨h1, h2⟩
      exact ⟨h1, by cases e : S.aB v with | false => rfl | true => exact absurd ⟨h1, e⟩ h2⟩
    · rintro ⟨h1, h2⟩
      exact ⟨h1, fun h => by rw [h2] at h; cases h.2⟩
  rw [hP] at hL
  have := hSt.lacks G M I hL
  rw [← sum_odd] at this
  exact this
theorem Told.shows (G : Gr n (adjOf es)) {f g : Nat → Option Nat} {S : FS} (hT : Told n es f S) (hg : Best n es g) (L : List (List Nat)) (hL : Pieces n (adjOf es) (fun v => v < n ∧ v ∉ setOf n S.aB) L) :
    (n : Int) - (((sumOdd L : Nat) : Int) - ((setOf n S.aB).length : Int)) = ((2 * sizeOf' n g : Nat) : Int) := by
  have a := hT.lack G hL
  have b := hT.best.same G hg
  have c := free_matched n g
  have d := matched_two G hg.1
  omega
end
end Gar
