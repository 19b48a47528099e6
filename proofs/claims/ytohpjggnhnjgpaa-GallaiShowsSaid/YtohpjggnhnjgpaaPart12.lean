/-
  PROVED: lemmas of the claim; no condition beyond what each one states.
  Walks: Enlarge.
-/
import Derived.Test.YtohpjggnhnjgpaaPart11
import Derived.Lib.SliceRun
set_option linter.unusedVariables false
set_option linter.unusedSimpArgs false

namespace Gar
open Go Go.RowKit Go.Proofs
set_option maxRecDepth 100000
set_option maxHeartbeats 1600000
variable {w : World} {n : Nat} {adj : Nat → Nat → Prop} {rows : Nat → List Nat}

/-- A path, turned: one edge more. -/
theorem Aug.turn (G : Gr n adj) {f : Nat → Option Nat} (M : Mat n adj f) {p : List Nat} (h : Aug n adj f p) : Mat n adj (turnF p f) ∧ (freeOf n (turnF p f)).length < (freeOf n f).length ∧ p.Nodup ∧ (∀ v ∈ p, v < n) ∧ p.length % 2 = 0 := by
  obtain ⟨v, u, r, s, lv, lw, rfl, h1, h2, h3, h4, h5, h6, h7, h8, h9, h10⟩ := h
  have hev : ((lv ++ [r]).reverse ++ (lw ++ [s])).length % 2 = 0 := by
    have a := h4.odd_len
    have b := h5.odd_len
    rw [List.length_append, List.length_reverse]; omega
  obtain ⟨a, b⟩ := augmented G M h4 h5 h1 h2 h3 h6 h7 h8 (turnF_turned _ f h9 hev) (fun u hu => turnF_out _ f u hu)
  exact ⟨a, b, h9, h10, hev⟩

theorem results_tmp_cell {fn : Func} {p u : Tmp} {ty : TypeId} (h : fn.results = #[.tmp u, .cell p ty]) (tmps : Array Value) (P : Program) (w : World) :
    (results fn tmps).run P w = ((asAddr (tmps.getD p undef)).run P w).andThen fun a w1 => ((loadVar ty a).run P w1).andThen fun v w2 => .ok (.tuple #[tmps.getD u undef, v]) w2 := by
  simp only [results, h]
  simp [Sem.run_bind, Result.andThen]

def EnlargePost (w : World) (n : Nat) (adj : Nat → Nat → Prop) (Am : Option Addr) (cm : Nat) (e : Ending) (w' : World) : Prop :=
  ∃ (f : Nat → Option Nat) (S : FS) (rep : Nat → Nat) (b : Nat) (x y : Int), Mat n adj f ∧ FOk n adj f S rep ∧ Still n adj f (S.st rep) ∧
    e = .returned (.tuple #[.slice (some ⟨b, 0, none⟩) (S.labels n).length (S.labels n).length, .agg #[.int .i64 x, .int .i64 y]]) ∧ w.heap.size ≤ b ∧
    Ow w' 1 (some ⟨b, 0, none⟩) (S.labels n).length (S.labels n).length ((S.labels n).map iv) ∧ Ow w' 1 Am n cm (mv n f) ∧ Fr (InA Am) w w'

def ERel (w : World) (n : Nat) (adj : Nat → Nat → Prop) (Am : Option Addr) (cm : Nat) (b5 b6 : Nat) (g : Nat) (wr : World) : Prop :=
  ∃ (f : Nat → Option Nat) (x y x' y' : Int), Mat n adj f ∧ g = (freeOf n f).length ∧ Ow wr 1 Am n cm (mv n f) ∧ Fr (InA Am) w wr ∧ wr.cell? ⟨b6, 0, none⟩ = some (.int .i64 x) ∧ wr.cell? ⟨b6, 1, none⟩ = some (.int .i64 y) ∧
    wr.frozen? ⟨b6, 0, none⟩ = false ∧ wr.frozen? ⟨b6, 1, none⟩ = false ∧ wr.cell? ⟨b5, 0, none⟩ = some (.int .i64 x') ∧ wr.cell? ⟨b5, 1, none⟩ = some (.int .i64 y') ∧ wr.frozen? ⟨b5, 0, none⟩ = false ∧ wr.frozen? ⟨b5, 1, none⟩ = false

/-- The neighbours, as they lie, in blocks of T. -/
def NearT (w : World) (An : Option Addr) (n : Nat) (rows : Nat → List Nat) (T : Nat → Prop) : Prop :=
  ∀ v, v < n → ∃ b o, An = some ⟨b, o, none⟩ ∧ T b ∧ ∃ A c, w.cell? ⟨b, o + v, none⟩ = some (.slice A (rows v).length c) ∧ Rd w 1 A (rows v).length ((rows v).map iv) ∧ ∀ x, InA A x → T x
theorem NearT.near {An : Option Addr} {T : Nat → Prop} (h : NearT w An n rows T) : Near w An n rows := fun v hv => by
  obtain ⟨b, o, h1, _, A, c, h2, h3, _⟩ := h v hv
  exact ⟨b, o, h1, A, c, h2, h3⟩
theorem NearT.fr {w' : World} {An : Option Addr} {S T : Nat → Prop} (h : NearT w An n rows T) (k : Fr S w w') (hT : ∀ b, T b → ¬ S b) : NearT w' An n rows T := fun v hv => by
  obtain ⟨b, o, h1, h0, A, c, h2, h3, h4⟩ := h v hv
  exact ⟨b, o, h1, h0, A, c, k.cell h2 (hT b h0), h3.fr k fun x hx => hT x (h4 x hx), h4⟩

theorem enlarge_spec {An Am : Option Addr} {cn cm : Nat} (hn : n ≤ 200000) (G : Gr n adj) {f : Nat → Option Nat} (M : Mat n adj f) (hrow : ∀ v u, v < n → (adj v u ↔ u ∈ rows v)) (hN : NearT w An n rows (fun b => ¬ InA Am b))
    (hA : ∃ b, Am = some ⟨b, 0, none⟩) (hO : Ow w 1 Am n cm (mv n f)) (hlen : ∀ v, v < n → (rows v).length ≤ 1000000) :
    Calls Try.prog 29 #[.slice An n cn, .slice Am n cm] w (EnlargePost w n adj Am cm) := by
  obtain ⟨bm, rfl⟩ := hA
  have hbm : bm < w.heap.size := hO.lt bm ⟨_, rfl, rfl⟩
  have hn' : n ≤ 1000000 := by omega
  have HN := Lib.hid hN
  have HR := Lib.hid hrow
  have HL := Lib.hid hlen
  clear hN hrow hlen
  go_enter Try.func29, Try.ntmps29
  go_wp2_with fail
  have e0 : ERel w n adj (some ⟨bm, 0, none⟩) cm w.heap.size (w.heap.size + 1) (freeOf n f).length ((w.alloc (Obj.cells #[Value.int IntKind.i64 0, Value.int IntKind.i64 0] 37)).alloc (Obj.cells #[Value.int IntKind.i64 0, Value.int IntKind.i64 0] 37)) := by
    have c6 := Cs.new (w.alloc (Obj.cells #[Value.int IntKind.i64 0, Value.int IntKind.i64 0] 37)) 37 #[Value.int IntKind.i64 0, Value.int IntKind.i64 0]
    have c5 := (Cs.new w 37 #[Value.int IntKind.i64 0, Value.int IntKind.i64 0]).alloc (Obj.cells #[Value.int IntKind.i64 0, Value.int IntKind.i64 0] 37)
    have e6 : (w.alloc (Obj.cells #[Value.int IntKind.i64 0, Value.int IntKind.i64 0] 37)).heap.size = w.heap.size + 1 := by simp
    rw [e6] at c6
    have hfr : Fr No w ((w.alloc (Obj.cells #[Value.int IntKind.i64 0, Value.int IntKind.i64 0] 37)).alloc (Obj.cells #[Value.int IntKind.i64 0, Value.int IntKind.i64 0] 37)) := ((Fr.refl _ _).alloc _).alloc _
    exact ⟨f, 0, 0, 0, 0, M, rfl, hO.fr hfr fun _ _ => id, hfr.any, by rw [c6.cell]; rfl, by rw [c6.cell]; rfl, c6.frozen 0, c6.frozen 1, by rw [c5.cell]; rfl, by rw [c5.cell]; rfl, c5.frozen 0, c5.frozen 1⟩
  obtain ⟨b5, hb5⟩ : ∃ b5, b5 = w.heap.size := ⟨_, rfl⟩
  obtain ⟨b6, hb6⟩ : ∃ b6, b6 = w.heap.size + 1 := ⟨_, rfl⟩
  rw [← hb6, ← hb5] at e0 ⊢
  generalize ((w.alloc (Obj.cells #[Value.int IntKind.i64 0, Value.int IntKind.i64 0] 37)).alloc (Obj.cells #[Value.int IntKind.i64 0, Value.int IntKind.i64 0] 37)) = w1 at e0 ⊢
  have HB5 := Lib.hid hb5
  have HB6 := Lib.hid hb6
  clear hO M hb5 hb6
  go_loopg [] (freeOf n f).length (ERel w n adj (some ⟨bm, 0, none⟩) cm b5 b6)
  case atStart => exact e0
  case round =>
    clear e0
    obtain ⟨f, x, y, x', y', M, hg, hO, hfr, c1, c2, z1, z2, c3, c4, z3, z4⟩ := hrel
    have hnear := (HN.out.fr hfr fun b => id).near
    have hmate : 0 < n → ∃ b, (some ⟨bm, 0, none⟩ : Option Addr) = some ⟨b, 0, none⟩ ∧ ∀ v, v < n → wr.cell? ⟨b, v, none⟩ = some (ev (f v)) := fun _ => ⟨bm, rfl, fun v hv => by have := (hO.cellAt (mv_get (f := f) hv)).1; simpa using this⟩
    have HG := Lib.hid hg
    clear hg
    go_wp2_with fail
    refine (search_spec hn G M HR.out hnear hmate HL.out).mono ?_
    rintro e w2 ⟨hfr2, lk, hcase⟩
    have hlt5 := World.block_lt_of_cell? wr _ c3
    have hlt6 := World.block_lt_of_cell? wr _ c1
    have d1 := hfr2.cell c1 id
    have d2 := hfr2.cell c2 id
    have y1 : w2.frozen? ⟨b6, 0, none⟩ = false := by simp only [World.frozen?, hfr2.block b6 hlt6 id] at z1 ⊢; exact z1
    have y2 : w2.frozen? ⟨b6, 1, none⟩ = false := by simp only [World.frozen?, hfr2.block b6 hlt6 id] at z2 ⊢; exact z2
    have d3 := hfr2.cell c3 id
    have d4 := hfr2.cell c4 id
    have y3 : w2.frozen? ⟨b5, 0, none⟩ = false := by simp only [World.frozen?, hfr2.block b5 hlt5 id] at z3 ⊢; exact z3
    have y4 : w2.frozen? ⟨b5, 1, none⟩ = false := by simp only [World.frozen?, hfr2.block b5 hlt5 id] at z4 ⊢; exact z4
    have hO2 := hO.fr hfr2 fun _ _ => id
    have hfr3 := hfr.step hfr2.any
    have hun := Try.underlying22
    clear c1 c2 c3 c4 z1 z2 z3 z4 hmate hnear hO hfr
    have hql : ∀ (W : World) (a : Option Addr) (l c : Nat), (binOp .eql 22 (.slice a l c) (.slice none 0 0)).run Try.prog W = .ok (.bool a.isNone) W := fun W a l c => Lib.run_eql_slice_nil W _ _ a l c 0 0 hun
    have h6m : ¬ InA (some ⟨bm, 0, none⟩) b6 := by rintro ⟨ad, e, h⟩; injection e with e; subst e; have := HB6.out; simp only at h; omega
    have h5m : ¬ InA (some ⟨bm, 0, none⟩) b5 := by rintro ⟨ad, e, h⟩; injection e with e; subst e; have := HB5.out; simp only at h; omega
    have h56 : b5 ≠ b6 := by have := HB5.out; have := HB6.out; omega
    have h65 : b6 ≠ b5 := Ne.symm h56
    have hb6w : ¬ b6 < w.heap.size := by have := HB6.out; omega
    have hb5w : ¬ b5 < w.heap.size := by have := HB5.out; omega
    -- what the store of the effort leaves
    have hst : ∀ u v : Int, ∃ w3, w3 = (w2.setCell ⟨b6, 0, none⟩ (.int .i64 u)).setCell ⟨b6, 1, none⟩ (.int .i64 v) ∧ w3.cell? ⟨b6, 0, none⟩ = some (.int .i64 u) ∧ w3.cell? ⟨b6, 1, none⟩ = some (.int .i64 v) ∧
        w3.frozen? ⟨b6, 0, none⟩ = false ∧ w3.frozen? ⟨b6, 1, none⟩ = false ∧ w3.cell? ⟨b5, 0, none⟩ = some (.int .i64 x') ∧ w3.cell? ⟨b5, 1, none⟩ = some (.int .i64 y') ∧ w3.frozen? ⟨b5, 0, none⟩ = false ∧ w3.frozen? ⟨b5, 1, none⟩ = false ∧
        Fr (fun b => b = b6) w2 w3 := by
      intro u v
      refine ⟨_, rfl, ?_, ?_, ?_, ?_, ?_, ?_, ?_, ?_, ((Fr.refl (fun b => b = b6) w2).setCell ⟨b6, 0, none⟩ _ fun _ => rfl).setCell ⟨b6, 1, none⟩ _ fun _ => rfl⟩
      · exact (World.cell?_setCell_other _ _ _ _ (by simp)).trans (World.cell?_setCell_same _ _ _ d1)
      · exact World.cell?_setCell_same _ _ _ ((World.cell?_setCell_other _ _ _ _ (by simp)).trans d2)
      · rw [World.frozen?_setCell, World.frozen?_setCell]; exact y1
      · rw [World.frozen?_setCell, World.frozen?_setCell]; exact y2
      · exact (World.cell?_setCell_far _ _ _ _ h65).trans ((World.cell?_setCell_far _ _ _ _ h65).trans d3)
      · exact (World.cell?_setCell_far _ _ _ _ h65).trans ((World.cell?_setCell_far _ _ _ _ h65).trans d4)
      · rw [World.frozen?_setCell, World.frozen?_setCell]; exact y3
      · rw [World.frozen?_setCell, World.frozen?_setCell]; exact y4
    have HST := Lib.hid hst
    clear hst
    rcases hcase with ⟨p, A, c, hAug, rfl, hOp, hAp⟩ | ⟨S, rep, b, hOk, hSt, rfl, hb, hOb⟩
    · obtain ⟨M', hless, hnd, hpn, hev⟩ := hAug.turn G M
      have hne : 0 < p.length := by
        obtain ⟨v, u, r, s, lv, lw, rfl, _⟩ := hAug
        simp
      obtain ⟨bp, op, rfl⟩ := hOp.some hne
      have hpl : p.length ≤ n := nodup_le hnd hpn
      have HPL := Lib.hid hpl
      have HPL := Lib.hid hpl
      clear hAug hpl
      go_wp2_with fail
      all_goals
        first
          | (obtain ⟨w3, hw3, c1, c2, z1, z2, c3, c4, z3, z4, hfr4⟩ := HST.out (wrap64 (x + 1)) y; rw [← hw3]; clear hw3)
          | (obtain ⟨w3, hw3, c1, c2, z1, z2, c3, c4, z3, z4, hfr4⟩ := HST.out (wrap64 (x + 1)) lk; rw [← hw3]; clear hw3)
        have hO3 := hO2.fr hfr4 fun b hb e => by rw [e] at hb; exact h6m hb
        have hOp3 := hOp.rd.fr hfr4 fun b hb e => by have h1 := hAp b hb; omega
        clear d1 d2 d3 d4 y1 y2 y3 y4
        refine (turn_spec hO3 hOp3 (fun b hb h => by have h1 := hAp b hb; have h2 : bm = b := by (obtain ⟨ad, e, h⟩ := h; injection e with e; subst e; exact h)
                                                     have h3 := hfr3.size; omega) hnd hpn hev (by have := HPL.out; omega) hn').mono ?_
        rintro e w4 ⟨rfl, hO4, hfr5⟩
        have hfr6 : Fr (InA (some ⟨bm, 0, none⟩)) w w4 := (hfr3.trans hfr4 fun x hx e => absurd hx (by rw [e]; exact hb6w)).step hfr5
        have c1' := hfr5.cell c1 h6m
        have c2' := hfr5.cell c2 h6m
        have c3' := hfr5.cell c3 h5m
        have c4' := hfr5.cell c4 h5m
        have l6 := World.block_lt_of_cell? w3 _ c1
        have l5 := World.block_lt_of_cell? w3 _ c3
        have z1' : w4.frozen? ⟨b6, 0, none⟩ = false := by simp only [World.frozen?, hfr5.block b6 l6 h6m] at z1 ⊢; exact z1
        have z2' : w4.frozen? ⟨b6, 1, none⟩ = false := by simp only [World.frozen?, hfr5.block b6 l6 h6m] at z2 ⊢; exact z2
        have z3' : w4.frozen? ⟨b5, 0, none⟩ = false := by simp only [World.frozen?, hfr5.block b5 l5 h5m] at z3 ⊢; exact z3
        have z4' : w4.frozen? ⟨b5, 1, none⟩ = false := by simp only [World.frozen?, hfr5.block b5 l5 h5m] at z4 ⊢; exact z4
        clear c1 c2 c3 c4 z1 z2 z3 z4
        have HL' := Lib.hid hless
        clear hless
        go_wp2_with fail
        go_roundg (freeOf n (turnF p f)).length
        case measure => rw [HG.out]; exact HL'.out
        case rel => exact ⟨turnF p f, _, _, x', y', M', rfl, hO4, hfr6, c1', c2', z1', z2', c3', c4', z3', z4'⟩
    · go_wp2_with fail
      all_goals
        first
          | (obtain ⟨w3, hw3, c1, c2, z1, z2, c3, c4, z3, z4, hfr4⟩ := HST.out (wrap64 (x + 1)) y; rw [← hw3]; clear hw3)
          | (obtain ⟨w3, hw3, c1, c2, z1, z2, c3, c4, z3, z4, hfr4⟩ := HST.out (wrap64 (x + 1)) lk; rw [← hw3]; clear hw3)
        have hO3 := hO2.fr hfr4 fun b hb e => by rw [e] at hb; exact h6m hb
        have hOb3 := hOb.fr hfr4 fun x hx e => by
          obtain ⟨ad, e', h⟩ := hx; injection e' with e'; subst e'; simp only at h; omega
        have hfr5 : Fr (InA (some ⟨bm, 0, none⟩)) w w3 := hfr3.trans hfr4 fun x hx e => absurd hx (by rw [e]; exact hb6w)
        clear d1 d2 d3 d4 y1 y2 y3 y4
        go_region
        have g1 := World.cell?_setCell_same w3 ⟨b5, 0, none⟩ (.int .i64 (wrap64 (x + 1))) c3
        first
          | (obtain ⟨w4, hw4⟩ : ∃ w4, w4 = ((w3.setCell ⟨b5, 0, none⟩ (.int .i64 (wrap64 (x + 1)))).setCell ⟨b5, 1, none⟩ (.int .i64 y)).drew := ⟨_, rfl⟩
             rw [← hw4])
          | (obtain ⟨w4, hw4⟩ : ∃ w4, w4 = ((w3.setCell ⟨b5, 0, none⟩ (.int .i64 (wrap64 (x + 1)))).setCell ⟨b5, 1, none⟩ (.int .i64 lk)).drew := ⟨_, rfl⟩
             rw [← hw4])
        have hfr6 : Fr (fun b => b = b5) w3 w4 := by rw [hw4]; exact (((Fr.refl (fun b => b = b5) w3).setCell ⟨b5, 0, none⟩ _ fun _ => rfl).setCell ⟨b5, 1, none⟩ _ fun _ => rfl).drew
        obtain ⟨z, hc6⟩ : ∃ z : Int, w4.cell? ⟨b5, 1, none⟩ = some (.int .i64 z) := by
          rw [hw4]; exact ⟨_, World.cell?_setCell_same _ _ _ ((World.cell?_setCell_other _ _ _ _ (by simp)).trans c4)⟩
        have hc5 : w4.cell? ⟨b5, 0, none⟩ = some (.int .i64 (wrap64 (x + 1))) := by
          rw [hw4]; exact (World.cell?_setCell_other _ _ _ _ (by simp)).trans g1
        clear hw4 g1 c1 c2 c3 c4 z1 z2 z3 z4
        have hO4 := hO3.fr hfr6 fun b hb e => by rw [e] at hb; exact h5m hb
        have hOb4 := hOb3.fr hfr6 fun x hx e => by
          obtain ⟨ad, e', h⟩ := hx; injection e' with e'; subst e'; simp only at h; omega
        have hfr7 : Fr (InA (some ⟨bm, 0, none⟩)) w w4 := hfr5.trans hfr6 fun x hx e => absurd hx (by rw [e]; exact hb5w)
        go_wp2_with fail
        (try simp only [Exit.inBlock, Exit.then])
        refine bodyPost_ret (v := .tuple #[.slice (some ⟨b, 0, none⟩) (S.labels n).length (S.labels n).length, .agg #[.int .i64 (wrap64 (x + 1)), .int .i64 z]]) ?_ rfl ?_
        · rw [results_tmp_cell rfl]; go_simp
        · exact ⟨f, S, rep, b, _, _, M, hOk, hSt, rfl, by have := HB5.out; omega, hOb4, hO4, hfr7⟩
end Gar
