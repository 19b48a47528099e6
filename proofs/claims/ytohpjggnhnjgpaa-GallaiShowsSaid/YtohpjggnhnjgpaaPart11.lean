/-
  PROVED: lemmas of the claim; no condition beyond what each one states.
  Walks: Search.
  Walks: Turn.
  PLAIN LAW. There are pieces; the largest matching is largest; no path augments it.
  PLAIN LAW. Going through a piece, vertex by vertex.
  Walks: In, Rises.
  Walks: mates.Size, barrier.Such.
-/
import Derived.Test.YtohpjggnhnjgpaaPart4
import Derived.Laws.Cover3
import Derived.Test.YtohpjggnhnjgpaaPart8
import Derived.Test.YtohpjggnhnjgpaaPart10
import Derived.Test.YtohpjggnhnjgpaaPart3
import Derived.Test.YtohpjggnhnjgpaaPart1
set_option linter.unusedVariables false
set_option linter.unusedSimpArgs false

namespace Gar
open Go Go.RowKit Go.Proofs
set_option maxRecDepth 100000
set_option maxHeartbeats 1600000
variable {w : World} {K : Nat → Nat} {n : Nat} {adj : Nat → Nat → Prop} {mate : Nat → Option Nat} {rows : Nat → List Nat}

/-- The neighbours, as they lie. -/
def Near (w : World) (An : Option Addr) (n : Nat) (rows : Nat → List Nat) : Prop :=
  ∀ v, v < n → ∃ b o, An = some ⟨b, o, none⟩ ∧ ∃ A c, w.cell? ⟨b, o + v, none⟩ = some (.slice A (rows v).length c) ∧ Rd w 1 A (rows v).length ((rows v).map iv)

theorem Near.fr {w' : World} {An : Option Addr} (h : Near w An n rows) (k : Fr No w w') : Near w' An n rows := fun v hv => by
  obtain ⟨b, o, h1, A, c, h2, h3⟩ := h v hv
  exact ⟨b, o, h1, A, c, k.cell h2 id, h3.fr k fun _ _ => id⟩

/-- A path that augments. -/
def Aug (n : Nat) (adj : Nat → Nat → Prop) (mate : Nat → Option Nat) (p : List Nat) : Prop :=
  ∃ v u r s lv lw, p = (lv ++ [r]).reverse ++ (lw ++ [s]) ∧ mate r = none ∧ mate s = none ∧ r < n ∧ Alt adj mate (lv ++ [r]) ∧ Alt adj mate (lw ++ [s]) ∧ (lv ++ [r]).head? = some v ∧ (lw ++ [s]).head? = some u ∧ adj v u ∧ p.Nodup ∧ ∀ t ∈ p, t < n

def SearchPost (w : World) (n : Nat) (adj : Nat → Nat → Prop) (mate : Nat → Option Nat) (e : Ending) (w' : World) : Prop :=
  Fr No w w' ∧ ∃ lk : Int,
    ((∃ p A c, Aug n adj mate p ∧ e = .returned (.tuple #[.slice A p.length c, .slice none 0 0, .int .i64 lk]) ∧ Ow w' 1 A p.length c (p.map iv) ∧ ∀ b, InA A b → w.heap.size ≤ b) ∨
     ∃ S rep b, FOk n adj mate S rep ∧ Still n adj mate (S.st rep) ∧ e = .returned (.tuple #[.slice none 0 0, .slice (some ⟨b, 0, none⟩) (S.labels n).length (S.labels n).length, .int .i64 lk]) ∧ w.heap.size ≤ b ∧
       Ow w' 1 (some ⟨b, 0, none⟩) (S.labels n).length (S.labels n).length ((S.labels n).map iv))

structure Sst (w : World) (K : Nat → Nat) (n : Nat) (adj : Nat → Nat → Prop) (mate : Nat → Option Nat) (own : Nat → Prop) (S : FS) (rep : Nat → Nat) (wr : World) : Prop where
  F : FM wr own K n mate S
  U : UF n S.up rep
  O : FOk n adj mate S rep
  g : S.gone = fun _ => false
  fr : Fr No w wr
  ex : ∀ b, own b → w.heap.size ≤ b

def OutRel (w : World) (K : Nat → Nat) (n : Nat) (adj : Nat → Nat → Prop) (mate : Nat → Option Nat) (rows : Nat → List Nat) (g : Nat) (x9 x10 : Value) (wr : World) : Prop :=
  ∃ own S rep, Sst w K n adj mate own S rep wr ∧
    ((x10 = .bool false ∧ S.wait = [] ∧ Edged n adj mate S rep (fun a _ => a ∈ S.wait) ∧ g = 2 * (n - S.done n)) ∨
     ∃ v, x9 = iv v ∧ x10 = .bool true ∧ v < n ∧ S.outer v = true ∧ Edged n adj mate S rep (Left S v (rows v)) ∧ g = 2 * (n - S.done n) + 1)

def InRel (w : World) (K : Nat → Nat) (n : Nat) (adj : Nat → Nat → Prop) (mate : Nat → Option Nat) (row : List Nat) (v D : Nat) (g : Nat) (x35 : Value) (wr : World) : Prop :=
  ∃ i own S rep, x35 = .int .i64 (i : Nat) ∧ i ≤ row.length ∧ g = row.length - i ∧ Sst w K n adj mate own S rep wr ∧ S.outer v = true ∧ Edged n adj mate S rep (Left S v (row.drop i)) ∧ D ≤ S.done n

def NextOf (w : World) (K : Nat → Nat) (n : Nat) (adj : Nat → Nat → Prop) (mate : Nat → Option Nat) (rows : Nat → List Nat) (G : Nat) (e : Ending) (w' : World) : Prop :=
  ∃ x9 x10 g, e = .returned (.tuple #[x9, x10]) ∧ OutRel w K n adj mate rows g x9 x10 w' ∧ g < G

theorem Sst.next (Gg : Gr n adj) (hrows : ∀ v u, adj v u → u ∈ rows v) {own : Nat → Prop} {S : FS} {rep : Nat → Nat} {wr : World} (h : Sst w K n adj mate own S rep wr) (hE : Edged n adj mate S rep (fun a _ => a ∈ S.wait))
    {e : Ending} {w' : World} (hN : NextPost wr own K n mate S e w') : NextOf w K n adj mate rows (2 * (n - S.done n) + 1) e w' := by
  rcases hN with ⟨h1, h2, rfl⟩ | ⟨v, t, h1, h2, h3, h4⟩
  · exact ⟨_, _, _, h2, ⟨own, S, rep, h, .inl ⟨rfl, h1, hE, rfl⟩⟩, by omega⟩
  · have hv := h.O.wo v (by rw [h1]; simp)
    have hd := h.O.done_next h1
    have hle := ({ S with wait := t } : FS).done_le n
    refine ⟨_, _, _, h2, ⟨own, { S with wait := t }, rep, ⟨h3, h.U, h.O.next h1, h.g, ?_, h.ex⟩, .inr ⟨v, rfl, rfl, hv.1, hv.2, hE.next Gg h1 (hrows v), rfl⟩⟩, by omega⟩
    exact h.fr.trans h4 fun x hx hx2 => absurd hx (Nat.not_lt.2 (h.ex x hx2))

theorem Sst.fr' {own : Nat → Prop} {S : FS} {rep : Nat → Nat} {wr w' : World} (h : Sst w K n adj mate own S rep wr) (k : Fr own wr w') : Fr No w w' :=
  h.fr.trans k fun x hx hx2 => absurd hx (Nat.not_lt.2 (h.ex x hx2))

theorem search_spec {An Am : Option Addr} {cn cm : Nat} (hn : n ≤ 200000) (G : Gr n adj) (M : Mat n adj mate) (hrow : ∀ v u, v < n → (adj v u ↔ u ∈ rows v)) (hN : Near w An n rows)
    (hA : 0 < n → ∃ b, Am = some ⟨b, 0, none⟩ ∧ ∀ v, v < n → w.cell? ⟨b, v, none⟩ = some (ev (mate v))) (hlen : ∀ v, v < n → (rows v).length ≤ 1000000) :
    Calls Try.prog 52 #[.slice An n cn, .slice Am n cm] w (SearchPost w n adj mate) := by
  have hn' : n ≤ 1000000 := by omega
  have hrows : ∀ v u, adj v u → u ∈ rows v := fun v u h => (hrow v u (G.lt v u h).1).1 h
  have HN := Lib.hid hN
  have HA := Lib.hid hA
  have HR := Lib.hid hrow
  have HS := Lib.hid hrows
  have HL := Lib.hid hlen
  clear hN hrow hrows hlen
  go_enter Try.func52, Try.ntmps52
  go_wp2_with fail
  refine (new_spec hn' hA).mono ?_
  rintro e w1 ⟨own, K, rfl, hF, hfr, hex⟩
  clear hA
  have hS : Sst w K n adj mate own (FS.begun mate n) id w1 := ⟨hF, FS.begun_uf n mate, FS.begun_ok n adj mate, rfl, hfr, hex⟩
  have hwl := FS.begun_len mate n
  go_wp2_with fail
  refine (next_spec hF (by omega)).mono ?_
  intro e w2 hnx
  obtain ⟨x9, x10, g0, rfl, hrel0, hg0⟩ := hS.next (rows := rows) G HS.out (Edged.begun n adj mate) hnx
  clear hnx hS hF hfr hex hwl
  go_wp2_with fail
  go_loopg [9, 10] g0 (OutRel w K n adj mate rows)
  case atStart => exact hrel0
  case round =>
    clear hrel0
    obtain ⟨own, S, rep, hs, hcase⟩ := hrel
    rcases hcase with ⟨rfl, hw0, hE, hg⟩ | ⟨v, rfl, rfl, hv, ho, hE, hg⟩
    · have H1 := Lib.hid hw0
      have H2 := Lib.hid hg
      clear hw0 hg
      obtain ⟨lk, hlk⟩ := hs.F.hLooks
      go_wp2_with fail
      go_region_with (go_at_call 72; refine (labels_spec hs.F.drew hn').mono ?_; rintro e w' ⟨b, rfl, hb, hO, hfr⟩; have hlk' := hfr.cell (w := wr.drew) hlk id)
      all_goals
        go_wp2_with fail
        go_ret3
        refine ⟨hs.fr.drew.trans hfr fun _ _ h => h, lk, .inr ⟨S, rep, b, hs.O, hE.still H1.out, rfl, Nat.le_trans hs.fr.size hb, hO⟩⟩
    · have HG := Lib.hid hg
      clear hg
      obtain ⟨bn, on, rfl, Av, cv, hc0, hRd0⟩ := HN.out v hv
      have hc := hs.fr.cell hc0 id
      have HRD := Lib.hid hRd0
      clear hc0 hRd0
      have hlv := HL.out v hv
      simp only [iv]
      go_wp2_with fail
      go_loopg [35] (rows v).length (InRel w K n adj mate (rows v) v (S.done n))
      case atStart => exact ⟨0, own, S, rep, rfl, by omega, by omega, hs, ho, by simpa using hE, Nat.le_refl _⟩
      case round =>
        obtain ⟨i, own1, S1, rep1, rfl, hi, hg1, hs1, ho1, hE1, hD⟩ := hrel
        have HG1 := Lib.hid hg1
        have HD := Lib.hid hD
        clear hg1 hD hs hE ho hc
        by_cases hlt : i < (rows v).length
        · obtain ⟨bv, ov, rfl, hcv⟩ := (HRD.out.fr hs1.fr fun _ _ => id).at_ (by simp; omega)
          have hcu := hcv i (iv (rows v)[i]) (by simp [hlt])
          have hmem : (rows v)[i] ∈ rows v := List.getElem_mem hlt
          have hadj := (HR.out v (rows v)[i] hv).2 hmem
          have hdrop : (rows v).drop i = (rows v)[i] :: (rows v).drop (i + 1) := List.drop_eq_getElem_cons hlt
          rw [hdrop] at hE1
          generalize hu' : (rows v)[i] = u at hcu hadj hE1
          have hu := (G.lt v u hadj).2
          clear hmem hdrop hu' hcv
          simp only [iv] at hcu
          have hroot : ∀ x r, x < n → S1.root x = some r → r < n := fun x r hx hr => by
            obtain ⟨ord, I⟩ := hs1.O.inv
            exact (I.i13 x r hx hr).1
          have hbi : i < 9223372036854775807 := by omega
          go_upto_region 9 with (fail)
          go_wp2_with fail
          refine (look_spec hn' hs1.F hs1.U hv hu hroot).mono ?_
          rintro e w3 ⟨rfl, up', hF3, hU3, hfr3⟩
          have hs3 : Sst w K n adj mate own1 { S1 with up := up' } rep1 w3 := ⟨hF3, hU3, hs1.O.up up', hs1.g, hs1.fr' hfr3, hs1.ex⟩
          have hng : ∀ x, S1.isGone x = false := fun x => by
            unfold FS.isGone; cases S1.root x with
            | none => rfl
            | some r => show S1.gone r = false; rw [hs1.g]
          have hE3 : Edged n adj mate { S1 with up := up' } rep1 (Left { S1 with up := up' } v (u :: (rows v).drop (i + 1))) := hE1
          have hvu : v ≠ u := fun e => by subst e; exact G.irr _ hadj
          have hwl := hs1.O.wait_le
          have hD3 : S.done n ≤ ({ S1 with up := up' } : FS).done n := HD.out
          have HD3 := Lib.hid hD3
          clear hF3 hU3 hfr3 hE1 hcu hroot hs1 hD3
          simp only [FS.look, hng, Bool.false_eq_true, or_false]
          by_cases hm : mate v = some u
          · rw [if_pos hm]
            have hE4 := hE3.look0 M (.inl hm)
            go_wp2_with fail
            go_roundg ((rows v).length - (i + 1))
            case measure => rw [HG1.out]; omega
            case rel => exact ⟨i + 1, own1, _, rep1, rfl, by omega, rfl, hs3, ho1, hE4, HD3.out⟩
          · rw [if_neg hm]
            by_cases h0 : S1.label u = 0
            · rw [if_pos h0]
              obtain ⟨x, hx⟩ : ∃ x, mate u = some x := by
                obtain ⟨ord, I⟩ := hs3.O.inv
                exact I.mateThere hu h0
              have hxn := (M.lt u x hx).2
              obtain ⟨k1, k2, k3, k4, k5⟩ := hs3.O.grow G M hv ho1 hadj h0 hx
              have hE4 := hE3.later k2 G hs3.O.on ⟨k3, .inl k4⟩ k5
              have hD4 : S.done n ≤ (FS.grow { S1 with up := up' } v u x).done n := Nat.le_trans HD3.out k2.done
              have ho4 : (FS.grow { S1 with up := up' } v u x).outer v = true := k2.outer v ho1
              have HD4 := Lib.hid hD4
              have HX := Lib.hid hx
              clear hD4 hx
              go_wp2_with fail
              refine (grow_spec (x := x) hs3.F (by show S1.wait.length ≤ _; omega) hv hu hxn HX.out hvu).mono ?_
              rintro e w4 ⟨rfl, own4, hF4, s4⟩
              obtain ⟨hfr4, hex4⟩ := s4.no hs3.fr hs3.ex
              go_wp2_with fail
              go_roundg ((rows v).length - (i + 1))
              case measure => rw [HG1.out]; omega
              case rel => exact ⟨i + 1, own4, _, rep1, rfl, by omega, rfl, ⟨hF4, hs3.U, k1, hs3.g, hfr4, hex4⟩, ho4, hE4, HD4.out⟩
            · rw [if_neg h0]
              by_cases h2 : S1.outer u = true ∧ S1.base (rep1 v) ≠ S1.base (rep1 u)
              · rw [if_pos h2]
                obtain ⟨huo, hB⟩ := h2
                have HB := Lib.hid hB
                have HO := Lib.hid huo
                clear hB huo
                go_upto_region 13 with (fail)
                go_wp2_with fail
                refine (base_spec hn' hs3.F hs3.U hv).mono ?_
                rintro e w4 ⟨rfl, up4, hF4, hU4, hfr4⟩
                have hs4 : Sst w K n adj mate own1 { S1 with up := up4 } rep1 w4 := ⟨hF4, hU4, hs3.O.up up4, hs3.g, hs3.fr' hfr4, hs3.ex⟩
                clear hF4 hU4 hfr4
                simp only [iv]
                go_wp2_with fail
                refine (base_spec hn' hs4.F hs4.U hu).mono ?_
                rintro e w5 ⟨rfl, up5, hF5, hU5, hfr5⟩
                have hs5 : Sst w K n adj mate own1 { S1 with up := up5 } rep1 w5 := ⟨hF5, hU5, hs4.O.up up5, hs4.g, hs4.fr' hfr5, hs4.ex⟩
                clear hF5 hU5 hfr5 hs4
                have hE5 : Edged n adj mate { S1 with up := up5 } rep1 (Left { S1 with up := up5 } v (u :: (rows v).drop (i + 1))) := hE3
                have hD5 : S.done n ≤ ({ S1 with up := up5 } : FS).done n := HD3.out
                have HD5 := Lib.hid hD5
                clear hs3 hE3 HD3 hD5
                have e0 : ((S1.base (rep1 v) : Int) == (S1.base (rep1 u) : Int)) = false := by have := HB.out; simp; omega
                simp only [iv]
                go_upto_region 14 with (fail)
                clear e0
                by_cases hrt : S1.root v = S1.root u
                · go_wp2_with fail
                  refine (joinBlossom_spec hn G M hs5.F hs5.U hs5.O hv ho1 hu HO.out hadj hrt HB.out).mono ?_
                  rintro e w6 ⟨rfl, own6, S6, rep6, hF6, hU6, s6, hO6, hL6, hB6⟩
                  obtain ⟨hfr6, hex6⟩ := s6.no hs5.fr hs5.ex
                  have hu6 : S6.label u ≠ 0 := by rw [hL6.label u hu h0]; exact h0
                  have hE6 := hE5.later hL6 G hs5.O.on ⟨hu6, .inr hB6⟩ (fun t ht k k2 => (hL6.new t ht k).resolve_left (by show ¬ S1.outer t = true; rw [show S1.outer t = false from k2]; simp))
                  have hD6 : S.done n ≤ S6.done n := Nat.le_trans HD5.out hL6.done
                  have ho6 := hL6.outer v ho1
                  have hg6 := hL6.gone.trans hs5.g
                  have HD6 := Lib.hid hD6
                  clear hD6
                  have hun := Try.underlying22
                  go_wp2_with fail
                  go_roundg ((rows v).length - (i + 1))
                  case measure => rw [HG1.out]; omega
                  case rel => exact ⟨i + 1, own6, S6, rep6, rfl, by omega, rfl, ⟨hF6, hU6, hO6, hg6, hfr6, hex6⟩, ho6, hE6, HD6.out⟩
                · go_wp2_with fail
                  refine (joinPath_spec hn' G M hs5.F hs5.O hv ho1 hu HO.out hrt).mono ?_
                  rintro e w6 ⟨p, r, s, A, c, hP, rfl, hOw, hA6, hF6, hfr6⟩
                  obtain ⟨lv, lw, rfl, p1, p2, p3, p4, p5, p6, p7, p8, p9, p10, p11, p12, p13⟩ := hP
                  have hAug : Aug n adj mate ((lv ++ [r]).reverse ++ (lw ++ [s])) := ⟨v, u, r, s, lv, lw, rfl, p3, p4, p6, p8, p9, p10, p11, hadj, p12, fun t ht => (p13 t ht).1⟩
                  have hfr7 := hs5.fr' hfr6
                  have hA7 : ∀ b, InA A b → w.heap.size ≤ b := fun b hb => Nat.le_trans hs5.fr.size (hA6 b hb)
                  have hne : 0 < ((lv ++ [r]).reverse ++ (lw ++ [s])).length := by simp
                  generalize ((lv ++ [r]).reverse ++ (lw ++ [s])) = p at hOw hAug hne ⊢
                  obtain ⟨bp, op, rfl⟩ := hOw.some hne
                  obtain ⟨lk, hlk⟩ := hF6.hLooks
                  have HA6 := Lib.hid hA6
                  have HA7 := Lib.hid hA7
                  clear hA6 hA7 p1 p2 p3 p4 p5 p6 p7 p8 p9 p10 p11 p12 p13 hrt
                  have hun := Try.underlying22
                  go_wp2_with fail
                  go_quiet (fail)
                  go_wp2_with fail
                  go_ret3
                  exact ⟨hfr7.drewN _, lk, .inl ⟨p, _, c, hAug, rfl, hOw.fr (S := No) ((Fr.refl _ _).drewN _) fun _ _ => id, HA7.out⟩⟩
              · rw [if_neg h2]
                have hE4 := hE3.look0 M (.inr ⟨h0, by
                  cases e : S1.outer u with
                  | false => exact .inl rfl
                  | true => exact .inr (Classical.byContradiction fun h => h2 ⟨e, h⟩)⟩)
                go_wp2_with fail
                go_roundg ((rows v).length - (i + 1))
                case measure => rw [HG1.out]; omega
                case rel => exact ⟨i + 1, own1, _, rep1, rfl, by omega, rfl, hs3, ho1, hE4, HD3.out⟩
        · have : i = (rows v).length := by omega
          subst this
          rw [List.drop_length] at hE1
          have hwl := hs1.O.wait_le
          go_wp2_with fail
          refine (next_spec hs1.F (by omega)).mono ?_
          intro e w2 hnx
          obtain ⟨x9, x10, g1, rfl, hrel1, hg1⟩ := hs1.next (rows := rows) G HS.out (hE1.none G) hnx
          have hd1 := S1.done_le n
          go_wp2_with fail
          go_roundg g1
          case measure => have := HG.out; have := HD.out; omega
          case rel => exact hrel1
end Gar

namespace Gar
open Go Go.RowKit Go.Proofs
set_option maxRecDepth 100000
set_option maxHeartbeats 1600000
variable {w : World} {n : Nat}

/-- A matching's cells. -/
def mv (n : Nat) (f : Nat → Option Nat) : List Value := (List.range n).map fun v => ev (f v)
theorem mv_len (n : Nat) (f : Nat → Option Nat) : (mv n f).length = n := by simp [mv]
theorem mv_get {n v : Nat} {f : Nat → Option Nat} (h : v < n) : (mv n f)[v]? = some (ev (f v)) := by simp [mv, h]
theorem mv_set {n v : Nat} {f : Nat → Option Nat} {x : Option Nat} : (mv n f).set v (ev x) = mv n (fun u => if u = v then x else f u) := by
  apply List.ext_getElem?
  intro i
  rw [List.getElem?_set]
  rcases Nat.lt_or_ge i n with h | h
  · by_cases e : v = i
    · subst e; rw [if_pos rfl, mv_get h, if_pos (by simpa [mv_len] using h)]; simp
    · rw [mv_get h]
      rw [if_neg e, mv_get h, if_neg (Ne.symm e)]
  · have h1 : (mv n fun u => if u = v then x else f u)[i]? = none := List.getElem?_eq_none (by simpa [mv_len] using h)
    rw [h1]
    by_cases e : v = i
    · subst e; simp [mv_len, Nat.not_lt.2 h]
    · rw [if_neg e]; exact List.getElem?_eq_none (by simpa [mv_len] using h)

theorem turnF_snoc {a b : Nat} : ∀ (l : List Nat) (f : Nat → Option Nat), l.length % 2 = 0 → turnF (l ++ [a, b]) f = fun u => if u = a then some b else if u = b then some a else turnF l f u
  | [], f, _ => rfl
  | [_], _, h => by simp at h
  | x :: y :: l, f, h => by
    simp only [List.cons_append, turnF]
    rw [turnF_snoc l _ (by simp only [List.length_cons] at h; omega)]

def TurnPost (w : World) (n cm : Nat) (Am : Option Addr) (g : Nat → Option Nat) (e : Ending) (w' : World) : Prop :=
  e = .returned (.tuple #[]) ∧ Ow w' 1 Am n cm (mv n g) ∧ Fr (InA Am) w w'

def TRel (w : World) (n cm : Nat) (Am : Option Addr) (f : Nat → Option Nat) (p : List Nat) (g : Nat) (x4 : Value) (wr : World) : Prop :=
  ∃ k j : Nat, j = 2 * k + 1 ∧ x4 = .int .i64 (j : Int) ∧ 2 * k ≤ p.length ∧ g = p.length - 2 * k ∧ Ow wr 1 Am n cm (mv n (turnF (p.take (2 * k)) f)) ∧ Fr (InA Am) w wr

theorem turn_spec {Am Ap : Option Addr} {cm cp : Nat} {f : Nat → Option Nat} {p : List Nat} (hO : Ow w 1 Am n cm (mv n f)) (hp : Rd w 1 Ap p.length (p.map iv)) (hd : ∀ b, InA Ap b → ¬ InA Am b) (hnd : p.Nodup) (hpn : ∀ v ∈ p, v < n)
    (hev : p.length % 2 = 0) (hpl : p.length ≤ 1000000) (hn : n ≤ 1000000) :
    Calls Try.prog 53 #[.slice Am n cm, .slice Ap p.length cp] w (TurnPost w n cm Am (turnF p f)) := by
  have HP := Lib.hid hp
  have HD := Lib.hid hd
  have HN := Lib.hid hnd
  have HV := Lib.hid hpn
  have HE := Lib.hid hev
  clear hp hd hnd hpn hev
  go_enter Try.func53, Try.ntmps53
  go_wp2_with fail
  go_loopg [4] p.length (TRel w n cm Am f p)
  case atStart => exact ⟨0, 1, rfl, rfl, by omega, by omega, by simpa [turnF] using hO, Fr.refl _ _⟩
  case round =>
    clear hO
    obtain ⟨k, j, hjk, rfl, hk, hg, hO, hfr⟩ := hrel
    have HJK := Lib.hid hjk
    have HG := Lib.hid hg
    clear hg
    clear hjk
    by_cases hlt : 2 * k + 1 < p.length
    · obtain ⟨bp, op, rfl, hcp⟩ := (HP.out.fr hfr HD.out).at_ (by simp; omega)
      have ha := hcp (2 * k) (iv p[2 * k]) (by rw [List.getElem?_map, List.getElem?_eq_getElem (by omega)]; rfl)
      have hb := hcp (2 * k + 1) (iv p[2 * k + 1]) (by simp [hlt])
      have hna : p[2 * k] < n := HV.out _ (List.getElem_mem _)
      have hnb : p[2 * k + 1] < n := HV.out _ (List.getElem_mem _)
      have hab : p[2 * k] ≠ p[2 * k + 1] := (List.pairwise_iff_getElem.1 HN.out) (2 * k) (2 * k + 1) (by omega) hlt (by omega)
      have htake : p.take (2 * (k + 1)) = p.take (2 * k) ++ [p[2 * k], p[2 * k + 1]] := by
        rw [show 2 * (k + 1) = 2 * k + 1 + 1 from by omega, List.take_succ_eq_append_getElem hlt, List.take_succ_eq_append_getElem (by omega), List.append_assoc]; rfl
      have htl : (p.take (2 * k)).length % 2 = 0 := by rw [List.length_take]; omega
      have hF : mv n (turnF (p.take (2 * (k + 1))) f) = ((mv n (turnF (p.take (2 * k)) f)).set p[2 * k] (ev (some p[2 * k + 1]))).set p[2 * k + 1] (ev (some p[2 * k])) := by
        rw [mv_set, mv_set, htake, turnF_snoc _ _ htl]
        congr 1
        funext u
        by_cases e1 : u = p[2 * k]
        · rw [if_pos e1, if_neg (fun e => hab (e1.symm.trans e)), if_pos e1]
        · rw [if_neg e1]
          by_cases e2 : u = p[2 * k + 1]
          · rw [if_pos e2, if_pos e2]
          · rw [if_neg e2, if_neg e2, if_neg e1]
      obtain ⟨bm, om, rfl⟩ := hO.some (by omega)
      have hbm : bp ≠ bm := fun e => HD.out bp ⟨_, rfl, rfl⟩ ⟨_, rfl, e.symm⟩
      obtain ⟨ca, za⟩ := hO.cellAt (mv_get (f := turnF (p.take (2 * k)) f) hna)
      obtain ⟨cb, zb⟩ := hO.cellAt (mv_get (f := turnF (p.take (2 * k)) f) hnb)
      have hO2 := (hO.set p[2 * k] (ev (some p[2 * k + 1]))).set p[2 * k + 1] (ev (some p[2 * k]))
      rw [← hF] at hO2
      have hfr2 : Fr (InA (some ⟨bm, om, none⟩)) w ((wr.setCell ⟨bm, om + p[2 * k], none⟩ (ev (some p[2 * k + 1]))).setCell ⟨bm, om + p[2 * k + 1], none⟩ (ev (some p[2 * k]))).drew :=
        ((hfr.setCell ⟨bm, om + p[2 * k], none⟩ _ fun _ => ⟨⟨bm, om, none⟩, rfl, rfl⟩).setCell ⟨bm, om + p[2 * k + 1], none⟩ _ fun _ => ⟨⟨bm, om, none⟩, rfl, rfl⟩).drew
      have hO3 := hO2.fr (S := No) ((Fr.refl _ _).drew) fun _ _ => id
      clear hO hfr hO2 hF htake htl
      generalize ev (turnF (p.take (2 * k)) f p[2 * k]) = va at ca
      generalize ev (turnF (p.take (2 * k)) f p[2 * k + 1]) = vb at cb
      generalize p[2 * k] = a at *
      generalize p[2 * k + 1] = b at *
      have hnm : bm ≠ bp := Ne.symm hbm
      have hoab : om + a ≠ om + b := by omega
      have hoba : om + b ≠ om + a := by omega
      simp only [iv, ev] at ha hb hO3 hfr2
      obtain ⟨m, hm⟩ : ∃ m, m = 2 * k := ⟨_, rfl⟩
      have hj : j = m + 1 := by have := HJK.out; omega
      rw [← hm] at ha hb
      rw [← hj] at hb
      have hjl : (j : Int) < (p.length : Int) := by omega
      have hjn : j < p.length := by omega
      have hml : (m : Int) < (p.length : Int) := by omega
      have hmn : m < p.length := by omega
      have hsub : (j : Int) - 1 = (m : Int) := by omega
      have hwr : IntKind.i64.wrap (m : Int) = (m : Int) := by rw [IntKind.wrap_i64]; omega
      have hjb : j ≤ 1000000 := by omega
      have HJ := Lib.hid hj
      have HM := Lib.hid hm
      clear hlt hk hj hm hcp
      go_wp2_with fail

      go_region_held3 (fun w' => w'.cell? ⟨bp, op + m, none⟩ = some (.int .i64 (a : Int)) ∧ w'.cell? ⟨bp, op + j, none⟩ = some (.int .i64 (b : Int))) (simp [*, World.cell?_setCell_far, World.cell?_setCell_other]) (fail)

      generalize ((wr.setCell ⟨bm, om + a, none⟩ (.int .i64 (b : Int))).setCell ⟨bm, om + b, none⟩ (.int .i64 (a : Int))).drew = w2 at hO3 hfr2 ⊢
      clear hsub hwr hml hmn hjl ha hb ca cb za zb hoab hoba hnm hbm
      go_wp2_with fail
      go_roundg (p.length - 2 * (k + 1))
      case measure => rw [HG.out]; have := HJK.out; omega
      case rel => exact ⟨k + 1, j + 2, by have := HJK.out; omega, by congr 1, by have := HJK.out; omega, rfl, hO3, hfr2⟩
    · have : 2 * k = p.length := by have := HE.out; omega
      have hjn : ¬ j < p.length := by have := HJK.out; omega
      have hjl : ¬ (j : Int) < (p.length : Int) := by omega
      have HT := Lib.hid this
      clear this
      go_wp2_with fail
      refine bodyPost_end (results_none rfl _ _ _) rfl ?_
      refine ⟨rfl, ?_, hfr⟩
      rw [HT.out, List.take_length] at hO; exact hO
end Gar

namespace Gar
section
variable {n : Nat} {adj : Nat → Nat → Prop}

/-- The pieces of what is let in. -/
noncomputable def piecesOf (n : Nat) (adj : Nat → Nat → Prop) (P : Nat → Prop) : List (List Nat) :=
  have := Classical.propDecidable
  ((List.range n).filter fun v => decide (P v ∧ ∀ u, u < v → ¬ Conn adj P v u)).map fun v => (List.range n).filter fun u => decide (Conn adj P v u)

theorem piecesOf_pieces (hs : ∀ u v, adj u v → adj v u) {P : Nat → Prop} (hP : ∀ u, P u → u < n) : Pieces n adj P (piecesOf n adj P) := by
  have hmem : ∀ l, l ∈ piecesOf n adj P → ∃ v, v < n ∧ P v ∧ (∀ u, u < v → ¬ Conn adj P v u) ∧ (∀ u, u ∈ l ↔ Conn adj P v u) ∧ l.Pairwise (· < ·) := by
    intro l hl
    simp only [piecesOf, List.mem_map, List.mem_filter, List.mem_range, decide_eq_true_eq] at hl
    obtain ⟨v, ⟨h1, h2, h3⟩, rfl⟩ := hl
    refine ⟨v, h1, h2, h3, fun u => ?_, (List.pairwise_lt_range).filter _⟩
    simp only [List.mem_filter, List.mem_range, decide_eq_true_eq]
    exact ⟨fun h => h.2, fun h => ⟨hP _ h.right, h⟩⟩
  have hhead : ∀ v, v < n → P v → (∀ u, u < v → ¬ Conn adj P v u) → ((List.range n).filter fun u => @decide (Conn adj P v u) (Classical.propDecidable _)).headD 0 = v := by
    intro v hv hp hl
    have hvm : v ∈ (List.range n).filter fun u => @decide (Conn adj P v u) (Classical.propDecidable _) := by
      simp only [List.mem_filter, List.mem_range, decide_eq_true_eq]
      exact ⟨hv, .refl _ hp⟩
    have hsort : ((List.range n).filter fun u => @decide (Conn adj P v u) (Classical.propDecidable _)).Pairwise (· < ·) := (List.pairwise_lt_range).filter _
    have hall : ∀ u ∈ (List.range n).filter fun u => @decide (Conn adj P v u) (Classical.propDecidable _), v ≤ u := by
      intro u hu
      simp only [List.mem_filter, List.mem_range, decide_eq_true_eq] at hu
      exact Nat.le_of_not_lt fun h => hl u h hu.2
    generalize (List.range n).filter (fun u => @decide (Conn adj P v u) (Classical.propDecidable _)) = l at hvm hsort hall
    cases l with
    | nil => cases hvm
    | cons a t =>
      rcases List.mem_cons.1 hvm with h | h
      · exact h.symm
      · have h1 := (List.pairwise_cons.1 hsort).1 v h
        have h2 := hall a (by simp)
        omega
  refine ⟨hP, fun l hl => ?_, fun l hl => ?_, fun l hl u hu => ?_, fun u hu => ?_, ?_⟩
  · obtain ⟨v, _, h2, _, h4, _⟩ := hmem l hl
    have : v ∈ l := (h4 v).2 (.refl _ h2)
    cases l with
    | nil => cases this
    | cons a t => exact ⟨a, t, rfl⟩
  · obtain ⟨v, _, _, _, _, h5⟩ := hmem l hl
    exact h5
  · obtain ⟨v, _, _, _, h4, _⟩ := hmem l hl
    have h := (h4 u).1 hu
    exact ⟨h.right, fun x => by rw [h4 x]; exact ⟨fun k => (h.symm hs).trans k, fun k => h.trans k⟩⟩
  · have key : ∀ k u, u ≤ k → P u → ∃ v, P v ∧ (∀ x, x < v → ¬ Conn adj P v x) ∧ Conn adj P v u := by
      intro k
      induction k with
      | zero => intro u hk hu; exact ⟨u, hu, fun x hx => by omega, .refl _ hu⟩
      | succ k ih =>
        intro u hk hu
        by_cases h : ∃ x, x < u ∧ Conn adj P u x
        · obtain ⟨x, hx, hc⟩ := h
          obtain ⟨v, h1, h2, h3⟩ := ih x (by omega) hc.right
          exact ⟨v, h1, h2, h3.trans (hc.symm hs)⟩
        · exact ⟨u, hu, fun x hx hc => h ⟨x, hx, hc⟩, .refl _ hu⟩
    obtain ⟨v, h1, h2, h3⟩ := key u u (Nat.le_refl _) hu
    refine ⟨(List.range n).filter fun u => @decide (Conn adj P v u) (Classical.propDecidable _), ?_, ?_⟩
    · simp only [piecesOf, List.mem_map, List.mem_filter, List.mem_range, decide_eq_true_eq]
      exact ⟨v, ⟨hP _ h1, h1, h2⟩, rfl⟩
    · simp only [List.mem_filter, List.mem_range, decide_eq_true_eq]
      exact ⟨hP _ hu, h3⟩
  · have : (piecesOf n adj P).map (fun l => l.headD 0) = (List.range n).filter fun v => @decide (P v ∧ ∀ u, u < v → ¬ Conn adj P v u) (Classical.propDecidable _) := by
      simp only [piecesOf, List.map_map]
      conv => rhs; rw [← List.map_id ((List.range n).filter _)]
      apply List.map_congr_left
      intro v hv
      simp only [List.mem_filter, List.mem_range, decide_eq_true_eq] at hv
      exact hhead v hv.1 hv.2.1 hv.2.2
    rw [this]
    exact (List.pairwise_lt_range).filter _

/-- A matching at whose end a forest could grow no more is largest. -/
theorem still_most (G : Gr n adj) {mate : Nat → Option Nat} (M : Mat n adj mate) {S : St} {ord : Nat → Nat} (I : InvO n adj mate S ord) (hE : Still n adj mate S) {mate' : Nat → Option Nat} (M' : Mat n adj mate') :
    (freeOf n mate).length ≤ (freeOf n mate').length :=
  hE.most G M I (piecesOf_pieces G.sym fun _ h => h.1) M'
end
end Gar

namespace Gar
section
variable {n : Nat} {adj : Nat → Nat → Prop} {D0 dn : Nat → Bool} {v : Nat} {now rest : List Nat}

def Qf (n : Nat) (D0 : Nat → Bool) (u : Nat) : Prop := u < n ∧ D0 u = false

/-- Gone through so far; X: of whom not all neighbours need be met. -/
structure Dfs (n : Nat) (adj : Nat → Nat → Prop) (D0 : Nat → Bool) (v : Nat) (X : Nat → Nat → Prop) (dn : Nat → Bool) (now rest : List Nat) : Prop where
  dn_eq : ∀ u, dn u = (D0 u || decide (u ∈ now))
  nod : now.Nodup
  rnod : rest.Nodup
  sub : ∀ u ∈ rest, u ∈ now
  conn : ∀ u ∈ now, Conn adj (Qf n D0) v u
  closed : ∀ u ∈ now, u ∉ rest → ∀ x, adj u x → dn x = true ∨ X u x
  start : v ∈ now

def put1 (dn : Nat → Bool) (x : Nat) : Nat → Bool := fun u => if u = x then true else dn u

theorem Dfs.lt {X : Nat → Nat → Prop} (h : Dfs n adj D0 v X dn now rest) : ∀ u ∈ now, u < n := fun u hu => (h.conn u hu).right.1
theorem Dfs.begin (hv : v < n) (h0 : D0 v = false) : Dfs n adj D0 v (fun _ _ => False) (put1 D0 v) [v] [v] := by
  refine ⟨fun u => ?_, by simp, by simp, by simp, fun u hu => ?_, fun u hu hn => ?_, by simp⟩
  · unfold put1; by_cases e : u = v <;> simp [e]
  · simp at hu; subst hu; exact .refl _ ⟨hv, h0⟩
  · simp at hu hn; exact absurd hu hn
/-- One is taken from the end of the rest. -/
theorem Dfs.pop {u : Nat} (h : Dfs n adj D0 v (fun _ _ => False) dn now (rest ++ [u])) : Dfs n adj D0 v (fun a _ => a = u) dn now rest := by
  have hr := List.nodup_append.1 h.rnod
  refine ⟨h.dn_eq, h.nod, hr.1, fun x hx => h.sub x (by simp [hx]), h.conn, fun a ha hn x hx => ?_, h.start⟩
  by_cases e : a = u
  · exact .inr e
  · exact .inl ((h.closed a ha (by simp [hn, e]) x hx).resolve_right id)
/-- A neighbour that is met: it was met. -/
theorem Dfs.met {u x : Nat} {X : Nat → Nat → Prop} (h : Dfs n adj D0 v (fun a b => a = u ∧ (b = x ∨ X a b)) dn now rest) (hx : dn x = true) : Dfs n adj D0 v (fun a b => a = u ∧ X a b) dn now rest :=
  ⟨h.dn_eq, h.nod, h.rnod, h.sub, h.conn, fun a ha hn y hy => by
      rcases h.closed a ha hn y hy with k | ⟨k1, k2 | k2⟩
      · exact .inl k
      · subst k2; exact .inl hx
      · exact .inr ⟨k1, k2⟩, h.start⟩
/-- .. it was not: it is noted. -/
theorem Dfs.fresh {u x : Nat} {X : Nat → Nat → Prop} (h : Dfs n adj D0 v (fun a b => a = u ∧ (b = x ∨ X a b)) dn now rest) (hu : u ∈ now) (ha : adj u x) (hxn : x < n) (hx : dn x = false) :
    Dfs n adj D0 v (fun a b => a = u ∧ X a b) (put1 dn x) (now ++ [x]) (rest ++ [x]) := by
  have hd := h.dn_eq x
  rw [hx] at hd
  have hd' : D0 x = false ∧ x ∉ now := by
    have := hd.symm
    simp at this; exact this
  have hxr : x ∉ rest := fun hr => hd'.2 (h.sub x hr)
  refine ⟨fun a => ?_, ?_, ?_, fun a ha => ?_, fun a ha' => ?_, fun a ha' hn y hy => ?_, by simp [h.start]⟩
  · unfold put1
    by_cases e : a = x
    · subst e; simp
    · rw [if_neg e, h.dn_eq a]; simp [e]
  · rw [List.nodup_append]; exact ⟨h.nod, by simp, fun a ha4 b hb e => by simp at hb; subst hb; subst e; exact hd'.2 ha4⟩
  · rw [List.nodup_append]; exact ⟨h.rnod, by simp, fun a ha4 b hb e => by simp at hb; subst hb; subst e; exact hxr ha4⟩
  · rcases List.mem_append.1 ha with k | k
    · exact List.mem_append_left _ (h.sub a k)
    · exact List.mem_append_right _ k
  · rcases List.mem_append.1 ha' with k | k
    · exact h.conn a k
    · simp at k; subst k; exact .tail (h.conn u hu) ha ⟨hxn, hd'.1⟩
  · have hmono : ∀ t, dn t = true → put1 dn x t = true := fun t ht => by unfold put1; split <;> simp [ht]
    rcases List.mem_append.1 ha' with k | k
    · have hn' : a ∉ rest := fun hr => hn (by simp [hr])
      rcases h.closed a k hn' y hy with q | ⟨q1, q2 | q2⟩
      · exact .inl (hmono y q)
      · subst q2; exact .inl (by simp [put1])
      · exact .inr ⟨q1, q2⟩
    · simp at k; subst k; exact absurd (by simp) hn
theorem Dfs.weaken {X Y : Nat → Nat → Prop} (h : Dfs n adj D0 v X dn now rest) (hxy : ∀ a b, adj a b → X a b → Y a b) : Dfs n adj D0 v Y dn now rest :=
  { h with closed := fun a ha hn y hy => (h.closed a ha hn y hy).imp id (hxy a y hy) }
/-- At the end: just what hangs together. -/
theorem Dfs.all (h : Dfs n adj D0 v (fun _ _ => False) dn now []) (u : Nat) : u ∈ now ↔ Conn adj (Qf n D0) v u := by
  refine ⟨h.conn u, fun hc => ?_⟩
  refine hc.stays (Q := fun x => x ∈ now) (fun a b _ hb ha hab => ?_) h.start
  have h1 := (h.closed a ha (by simp) b hab).resolve_right id
  rw [h.dn_eq b, hb.2] at h1
  simpa using h1

/-- How far the pieces are told: of vertices below k. -/
noncomputable def pcs (n : Nat) (adj : Nat → Nat → Prop) (P : Nat → Prop) (k : Nat) : List (List Nat) :=
  ((List.range k).filter fun v => @decide (P v ∧ ∀ u, u < v → ¬ Conn adj P v u) (Classical.propDecidable _)).map fun v => (List.range n).filter fun u => @decide (Conn adj P v u) (Classical.propDecidable _)
theorem pcs_all (P : Nat → Prop) : pcs n adj P n = piecesOf n adj P := rfl
noncomputable def pc (n : Nat) (adj : Nat → Nat → Prop) (P : Nat → Prop) (v : Nat) : List Nat := (List.range n).filter fun u => @decide (Conn adj P v u) (Classical.propDecidable _)
theorem pcs_succ (P : Nat → Prop) (k : Nat) (h : P k ∧ ∀ u, u < k → ¬ Conn adj P k u) : pcs n adj P (k + 1) = pcs n adj P k ++ [pc n adj P k] := by
  unfold pcs pc
  rw [List.range_succ, List.filter_append, List.map_append]
  simp only [List.filter_cons, List.filter_nil, @decide_eq_true _ (Classical.propDecidable _) h, if_true, List.map_cons, List.map_nil]
theorem pcs_skip (P : Nat → Prop) (k : Nat) (h : ¬ (P k ∧ ∀ u, u < k → ¬ Conn adj P k u)) : pcs n adj P (k + 1) = pcs n adj P k := by
  unfold pcs
  rw [List.range_succ, List.filter_append, List.map_append]
  simp only [List.filter_cons, List.filter_nil, @decide_eq_false _ (Classical.propDecidable _) h, Bool.false_eq_true, if_false, List.map_nil, List.append_nil]

/-- What is done before vertex k: what was left out, and what hangs together with a vertex below k. -/
def DnAt (n : Nat) (adj : Nat → Nat → Prop) (P : Nat → Prop) (k : Nat) (dn : Nat → Bool) : Prop := ∀ u, u < n → (dn u = true ↔ ¬ P u ∨ ∃ t, t < k ∧ Conn adj P t u)

theorem DnAt.rep {P : Nat → Prop} (hs : ∀ u v, adj u v → adj v u) {k : Nat} (h : DnAt n adj P k dn) (hk : k < n) : dn k = false ↔ (P k ∧ ∀ u, u < k → ¬ Conn adj P k u) := by
  have := h k hk
  constructor
  · intro hd
    rw [hd] at this
    have h1 : ¬ (¬ P k ∨ ∃ t, t < k ∧ Conn adj P t k) := fun q => by have := this.2 q; cases this
    exact ⟨Classical.byContradiction fun q => h1 (.inl q), fun u hu hc => h1 (.inr ⟨u, hu, hc.symm hs⟩)⟩
  · rintro ⟨h1, h2⟩
    cases e : dn k with
    | false => rfl
    | true =>
      rcases this.1 e with q | ⟨t, q1, q2⟩
      · exact absurd h1 q
      · exact absurd (q2.symm hs) (h2 t q1)
theorem DnAt.skip {P : Nat → Prop} (hP : ∀ u, P u → u < n) {k : Nat} (h : DnAt n adj P k dn) (hk : k < n) (hd : dn k = true) : DnAt n adj P (k + 1) dn := by
  intro u hu
  rw [h u hu]
  constructor
  · rintro (q | ⟨t, q1, q2⟩)
    · exact .inl q
    · exact .inr ⟨t, by omega, q2⟩
  · rintro (q | ⟨t, q1, q2⟩)
    · exact .inl q
    · rcases Nat.lt_or_ge t k with e | e
      · exact .inr ⟨t, e, q2⟩
      · have : t = k := by omega
        subst this
        rcases (h t hk).1 hd with q | ⟨s, q3, q4⟩
        · exact absurd q2.left q
        · exact .inr ⟨s, q3, q4.trans q2⟩
theorem DnAt.conn {P : Nat → Prop} (hs : ∀ u v, adj u v → adj v u) (hP : ∀ u, P u → u < n) {k : Nat} (h : DnAt n adj P k dn) (hk : k < n) (hd : dn k = false) (u : Nat) : Conn adj (Qf n dn) k u ↔ Conn adj P k u := by
  obtain ⟨hpk, hlow⟩ := (h.rep hs hk).1 hd
  have hQP : ∀ x, Qf n dn x → P x := fun x hx => Classical.byContradiction fun q => by
    have := (h x hx.1).2 (.inl q); rw [hx.2] at this; cases this
  refine ⟨fun hc => hc.mono hQP, fun hc => ?_⟩
  have key : ∀ x, Conn adj P k x → Qf n dn x := fun x hx => by
    refine ⟨hP _ hx.right, ?_⟩
    cases e : dn x with
    | false => rfl
    | true =>
      rcases (h x (hP _ hx.right)).1 e with q | ⟨t, q1, q2⟩
      · exact absurd hx.right q
      · exact absurd ((q2.trans (hx.symm hs)).symm hs) (hlow t q1)
  induction hc with
  | refl _ => exact .refl _ (key _ (.refl _ hpk))
  | tail h1 h2 h3 ih => exact .tail ih h2 (key _ (.tail h1 h2 h3))
theorem DnAt.next {P : Nat → Prop} (hs : ∀ u v, adj u v → adj v u) (hP : ∀ u, P u → u < n) {k : Nat} (h : DnAt n adj P k dn) (hk : k < n) (hd : dn k = false) {dn' : Nat → Bool} {now : List Nat} (hf : Dfs n adj dn k (fun _ _ => False) dn' now []) :
    DnAt n adj P (k + 1) dn' ∧ now.length = (pc n adj P k).length := by
  have hall : ∀ u, u ∈ now ↔ Conn adj P k u := fun u => (hf.all u).trans (h.conn hs hP hk hd u)
  constructor
  · intro u hu
    rw [hf.dn_eq u, Bool.or_eq_true, h u hu, decide_eq_true_eq, hall u]
    constructor
    · rintro ((q | ⟨t, q1, q2⟩) | q)
      · exact .inl q
      · exact .inr ⟨t, by omega, q2⟩
      · exact .inr ⟨k, by omega, q⟩
    · rintro (q | ⟨t, q1, q2⟩)
      · exact .inl (.inl q)
      · rcases Nat.lt_or_ge t k with e | e
        · exact .inl (.inr ⟨t, e, q2⟩)
        · have : t = k := by omega
          subst this; exact .inr q2
  · refine List.Perm.length_eq ((List.perm_ext_iff_of_nodup hf.nod ((List.nodup_range).filter _)).2 fun u => ?_)
    rw [hall u]
    simp only [List.mem_filter, List.mem_range, decide_eq_true_eq]
    exact ⟨fun q => ⟨hP _ q.right, q⟩, fun q => q.2⟩
end
end Gar

namespace Gar
open Go Go.RowKit Go.Proofs
set_option maxRecDepth 100000
set_option maxHeartbeats 1600000
variable {w : World} {n : Nat}

def InRelL (w : World) (l : List Nat) (v : Nat) (g : Nat) (x : Value) (wr : World) : Prop := ∃ i : Nat, x = .int .i64 (i : Int) ∧ i ≤ l.length ∧ g = l.length - i ∧ w = wr ∧ v ∉ l.take i
def InPost (w : World) (l : List Nat) (v : Nat) (e : Ending) (w' : World) : Prop := e = .returned (.bool (decide (v ∈ l))) ∧ w = w'

theorem in_spec {A : Option Addr} {c v : Nat} {l : List Nat} (hl : l.length ≤ 1000000) (hR : Rd w 1 A l.length (l.map iv)) :
    Calls Try.prog 14 #[.slice A l.length c, .int .i64 (v : Int)] w (InPost w l v) := by
  have HR := Lib.hid hR
  clear hR
  go_enter Try.func14, Try.ntmps14
  go_wp2_with fail
  go_loopg [5] l.length (InRelL w l v)
  case atStart => exact ⟨0, rfl, by omega, rfl, rfl, by simp⟩
  case round =>
    obtain ⟨i, rfl, hi, hg, rfl, hn⟩ := hrel
    have HG := Lib.hid hg
    have HN := Lib.hid hn
    clear hg hn
    by_cases hlt : i < l.length
    · obtain ⟨b, o, rfl, hc⟩ := HR.out.at_ (by rw [List.length_map]; omega)
      have h1 := hc i (iv l[i]) (by simp [hlt])
      have htk : l.take (i + 1) = l.take i ++ [l[i]] := List.take_succ_eq_append_getElem hlt
      have hmem : l[i] ∈ l := List.getElem_mem hlt
      have HT := Lib.hid htk
      have HMM := Lib.hid hmem
      have hii : (i : Int) < (l.length : Int) := by omega
      clear hc htk hmem
      generalize l[i] = y at h1 HT HMM
      simp only [iv] at h1
      by_cases e : y = v
      · have e0 : ((y : Int) == (v : Int)) = true := by simp [e]
        have HE := Lib.hid e
        clear e
        go_wp2_with fail
        go_ret
        exact ⟨by rw [decide_eq_true (by rw [← HE.out]; exact HMM.out)]; rfl, rfl⟩
      · have e0 : ((y : Int) == (v : Int)) = false := by simp; omega
        have HE := Lib.hid e
        clear e
        go_wp2_with fail
        go_roundg (l.length - (i + 1))
        case measure => rw [HG.out]; omega
        case rel => exact ⟨i + 1, rfl, by omega, rfl, rfl, by rw [HT.out]; simp only [List.mem_append, List.mem_singleton, not_or]; exact ⟨HN.out, fun h => HE.out h.symm⟩⟩
    · have : i = l.length := by omega
      subst this
      have hnn := HN.out
      rw [List.take_length] at hnn
      have HNN := Lib.hid hnn
      clear hnn
      go_wp2_with fail
      go_ret
      exact ⟨by rw [decide_eq_false HNN.out]; rfl, rfl⟩

def RisRel (w : World) (l : List Nat) (g : Nat) (x : Value) (wr : World) : Prop := ∃ i : Nat, x = .int .i64 (i : Int) ∧ 1 ≤ i ∧ g = l.length + 1 - i ∧ i ≤ l.length + 1 ∧ Fr No w wr

theorem rises_spec {A : Option Addr} {c : Nat} {l : List Nat} (hl : l.length ≤ 1000000) (hs : l.Pairwise (· < ·)) (hR : Rd w 1 A l.length (l.map iv)) :
    Calls Try.prog 20 #[.slice A l.length c] w (fun e w' => e = .returned (.bool true) ∧ Fr No w w') := by
  have HR := Lib.hid hR
  have HS := Lib.hid hs
  clear hR hs
  go_enter Try.func20, Try.ntmps20
  go_wp2_with fail
  go_loopg [3] l.length (RisRel w l)
  case atStart => exact ⟨1, rfl, by omega, by omega, by omega, Fr.refl _ _⟩
  case round =>
    obtain ⟨i, rfl, hi1, hg, hi2, hfr⟩ := hrel
    have HG := Lib.hid hg
    clear hg
    by_cases hlt : i < l.length
    · obtain ⟨j, hj⟩ : ∃ j, j = i - 1 := ⟨_, rfl⟩
      have hjl : j < l.length := by omega
      obtain ⟨b, o, rfl, hc⟩ := (HR.out.fr hfr fun _ _ => id).at_ (by rw [List.length_map]; omega)
      have h1 := hc i (iv l[i]) (by simp [hlt])
      have h2 := hc j (iv l[j]) (by simp [hjl])
      have hlt2 : l[j] < l[i] := (List.pairwise_iff_getElem.1 HS.out) j i hjl hlt (by omega)
      have hsub : (i : Int) - 1 = (j : Int) := by omega
      have hwr : IntKind.i64.wrap (j : Int) = (j : Int) := by rw [IntKind.wrap_i64]; omega
      have hii : (i : Int) < (l.length : Int) := by omega
      have hji : (j : Int) < (l.length : Int) := by omega
      clear hc hj
      generalize l[i] = y at h1 hlt2
      generalize l[j] = x at h2 hlt2
      have d1 : decide (y ≤ x) = false := by simp; omega
      simp only [iv] at h1 h2
      clear hlt2
      go_wp2_with fail
      go_quiet (fail)
      go_wp2_with fail
      go_roundg (l.length + 1 - (i + 1))
      case measure => rw [HG.out]; omega
      case rel => exact ⟨i + 1, rfl, by omega, rfl, by omega, hfr.drewN _⟩
    · go_wp2_with fail
      go_ret
      exact ⟨rfl, hfr⟩
end Gar

namespace Gar
open Go Go.RowKit Go.Proofs
set_option maxRecDepth 100000
set_option maxHeartbeats 1600000
variable {w : World} {n : Nat}

theorem paired_spec {adj : Nat → Nat → Prop} {f : Nat → Option Nat} {bm cm v : Nat} (G : Gr n adj) (M : Mat n adj f) (hn : n ≤ 1000000) (hv : v < n) (hm : ∀ v, v < n → w.cell? ⟨bm, v, none⟩ = some (ev (f v))) :
    Calls Try.prog 56 #[.slice (some ⟨bm, 0, none⟩) n cm, .int .i64 (v : Int)] w (fun e w' => e = .returned (.bool (f v).isSome) ∧ w = w') := by
  have h1 := hm v hv
  cases hfv : f v with
  | none =>
    rw [hfv] at h1
    simp only [ev] at h1
    have hvi : (v : Int) < (n : Int) := by omega
    clear hm hfv
    go_enter Try.func56, Try.ntmps56
    go_wp2_with fail
    go_ret
    exact ⟨rfl, rfl⟩
  | some u =>
    have hu := (M.lt v u hfv).2
    have hne : u ≠ v := fun e => by subst e; exact G.irr _ (M.adj _ _ hfv)
    have h2 := hm u hu
    rw [M.sym _ _ hfv] at h2
    rw [hfv] at h1
    simp only [ev] at h1 h2
    have hvi : (v : Int) < (n : Int) := by omega
    have hui : (u : Int) < (n : Int) := by omega
    have d1 : decide (u < n) = true := by simp [hu]
    have d2 : ((u : Int) != (v : Int)) = true := by simp; omega
    have d3 : ((u : Int) == (v : Int)) = false := by simp; omega
    have HNE := Lib.hid hne
    clear hm hfv hne
    go_enter Try.func56, Try.ntmps56
    go_wp2_with fail
    go_ret
    refine ⟨?_, rfl⟩
    simp

/-- The numbers below n of which it is so, on a slice of one's own. -/
def Coll (wr : World) (B : Nat) (l : List Nat) (x : Value) : Prop := ∃ A c, x = .slice A l.length c ∧ Ow wr 1 A l.length c (l.map iv) ∧ ∀ b, InA A b → B ≤ b

def CollPost (w : World) (l : List Nat) (e : Ending) (w' : World) : Prop := ∃ x, e = .returned x ∧ Coll w' w.heap.size l x ∧ Fr No w w'

def CollRel (w : World) (m : Nat) (p : Nat → Bool) (g : Nat) (x x5 : Value) (wr : World) : Prop :=
  ∃ k : Nat, x = .int .i64 (k : Int) ∧ k ≤ m ∧ g = m - k ∧ Coll wr w.heap.size ((List.range k).filter p) x5 ∧ Fr No w wr

theorem such_spec {adj : Nat → Nat → Prop} {f : Nat → Option Nat} {Am : Option Addr} {cm : Nat} (G : Gr n adj) (M : Mat n adj f) (hn : n ≤ 1000000) (hm : 0 < n → ∃ b, Am = some ⟨b, 0, none⟩ ∧ ∀ v, v < n → w.cell? ⟨b, v, none⟩ = some (ev (f v))) :
    Calls Try.prog 55 #[.slice Am n cm, .func (.func 56) #[] #[]] w (CollPost w ((List.range n).filter fun v => (f v).isSome)) := by
  have HM := Lib.hid hm
  clear hm
  obtain ⟨i0, hi, hz0, hz1, hz2⟩ := info_parts info_int
  go_enter Try.func55, Try.ntmps55
  go_wp2_with fail
  go_loopg [9, 5] n (CollRel w n (fun v => (f v).isSome))
  case atStart => exact ⟨0, rfl, by omega, rfl, ⟨none, 0, rfl, Ow.nil_ _ _, fun x ⟨ad, h, _⟩ => by cases h⟩, Fr.refl _ _⟩
  case round =>
    obtain ⟨k, rfl, hk, hg, ⟨A, c, rfl, hO, hA⟩, hfr⟩ := hrel
    have HG := Lib.hid hg
    clear hg
    have hlen : ((List.range k).filter fun v => (f v).isSome).length ≤ k := by have := List.length_filter_le (fun v => (f v).isSome) (List.range k); simpa using this
    by_cases hlt : k < n
    · obtain ⟨bm, rfl, hmm⟩ := HM.out (by omega)
      have hmk : ∀ v, v < n → wr.cell? ⟨bm, v, none⟩ = some (ev (f v)) := fun v hv => hfr.cell (hmm v hv) id
      clear hmm
      have HMK := Lib.hid hmk
      clear hmk
      have hsucc : (List.range (k + 1)).filter (fun v => (f v).isSome) = (List.range k).filter (fun v => (f v).isSome) ++ (if (f k).isSome then [k] else []) := by
        rw [List.range_succ, List.filter_append]; cases h : (f k).isSome <;> simp [h]
      have HS := Lib.hid hsucc
      clear hsucc
      generalize (List.range k).filter (fun v => (f v).isSome) = l at hO hlen HS
      cases hb : (f k).isSome with
      | false =>
        have HB := Lib.hid hb
        have HO := Lib.hid hO
        clear hb hO
        go_wp2_with (go_at_call 56; refine (paired_spec G M hn hlt HMK.out).mono ?_; rintro e w' ⟨rfl, rfl⟩; rw [HB.out])
        go_roundg (n - (k + 1))
        case measure => rw [HG.out]; omega
        case rel => exact ⟨k + 1, rfl, by omega, rfl, ⟨A, c, by rw [HS.out, HB.out]; simp, by rw [HS.out, HB.out]; simpa using HO.out, hA⟩, hfr⟩
      | true =>
        have HB := Lib.hid hb
        clear hb
        go_wp2_with (first
          | (go_at_call 56; refine (paired_spec G M hn hlt HMK.out).mono ?_; rintro e w' ⟨rfl, rfl⟩; rw [HB.out])
          | (at_builtin; refine wpList_append_to rfl (.tmp 16) (.tmp 18) 22 rfl 3 i0 (.int .i64 0) 1 8 Try.underlying22 hi hz0 hz1 hz2 rfl (by decide) (l.length + 1) (l.map iv ++ [iv k]) rfl (hO.fr ((Fr.refl No _).alloc _) fun _ _ => id) rfl (Rd.one (World.cell?_alloc_new _ _ _ 0)) (by simp [Value.oneCell']) rfl rfl (by omega) (by simp only [maxLen]; omega) ?_; intro A5 c5 w5 hO5 hfr5 hA5))
        have hfr6 : Fr No w w5 := (hfr.alloc _).new hfr5 hA
        have hA6 : ∀ b, InA A5 b → w.heap.size ≤ b := fun b hb => (hA5 b hb).elim (hA b) fun h => Nat.le_trans (hfr.alloc _).size h
        have HO := Lib.hid hO5
        clear hO hO5 hfr5 hA5 hfr
        go_roundg (n - (k + 1))
        case measure => rw [HG.out]; omega
        case rel => exact ⟨k + 1, rfl, by omega, rfl, ⟨A5, c5, by rw [HS.out, HB.out]; simp, by rw [HS.out, HB.out]; simpa using HO.out, hA6⟩, hfr6⟩
    · have : k = n := by omega
      subst this
      have HC := Lib.hid (show Coll wr w.heap.size ((List.range k).filter fun v => (f v).isSome) _ from ⟨A, c, rfl, hO, hA⟩)
      clear hO
      go_wp2_with fail
      go_ret
      exact ⟨_, rfl, HC.out, hfr⟩

/-- How many edges. -/
def sizeOf' (n : Nat) (f : Nat → Option Nat) : Nat := ((List.range n).filter fun v => (f v).isSome).length / 2

theorem size_spec {adj : Nat → Nat → Prop} {f : Nat → Option Nat} {Am : Option Addr} {cm : Nat} (G : Gr n adj) (M : Mat n adj f) (hn : n ≤ 1000000) (hO : Ow w 1 Am n cm (mv n f)) (hA : 0 < n → ∃ b, Am = some ⟨b, 0, none⟩) :
    Calls Try.prog 33 #[.slice Am n cm] w (fun e w' => e = .returned (.int .i64 ((sizeOf' n f : Nat) : Int)) ∧ Fr No w w') := by
  have hm : 0 < n → ∃ b, Am = some ⟨b, 0, none⟩ ∧ ∀ v, v < n → w.cell? ⟨b, v, none⟩ = some (ev (f v)) := fun hp => by
    obtain ⟨b, rfl⟩ := hA hp
    exact ⟨b, rfl, fun v hv => by have := (hO.cellAt (mv_get (f := f) hv)).1; simpa using this⟩
  have HM := Lib.hid hm
  clear hm hO hA
  have hlen : ((List.range n).filter fun v => (f v).isSome).length ≤ n := by have := List.length_filter_le (fun v => (f v).isSome) (List.range n); simpa using this
  unfold sizeOf'
  obtain ⟨l, hl⟩ : ∃ l, l = (List.range n).filter fun v => (f v).isSome := ⟨_, rfl⟩
  rw [← hl] at hlen ⊢
  have HL := Lib.hid hl
  clear hl
  go_enter Try.func33, Try.ntmps33
  go_wp2_with (go_at_call 55; refine (such_spec G M hn HM.out).mono ?_; rintro e w' ⟨x, rfl, ⟨A, c, rfl, hO, hA⟩, hfr⟩; rw [← HL.out] at hO ⊢; clear hO)
  go_ret
  exact ⟨by congr 1, hfr⟩

theorem suchl_spec {Al : Option Addr} {cl l0 : Nat} {ls : List Nat} (hl : ls.length ≤ 1000000) (hR : Rd w 1 Al ls.length (ls.map iv)) :
    Calls Try.prog 34 #[.slice Al ls.length cl, .int .i64 (l0 : Int)] w (CollPost w ((List.range ls.length).filter fun v => ls[v]? == some l0)) := by
  have HR := Lib.hid hR
  clear hR
  obtain ⟨i0, hi, hz0, hz1, hz2⟩ := info_parts info_int
  go_enter Try.func34, Try.ntmps34
  go_wp2_with fail
  go_loopg [10, 5] ls.length (CollRel w ls.length (fun v => ls[v]? == some l0))
  case atStart => exact ⟨0, rfl, by omega, rfl, ⟨none, 0, rfl, Ow.nil_ _ _, fun x ⟨ad, h, _⟩ => by cases h⟩, Fr.refl _ _⟩
  case round =>
    obtain ⟨k, rfl, hk, hg, ⟨A, c, rfl, hO, hA⟩, hfr⟩ := hrel
    have HG := Lib.hid hg
    clear hg
    have hlen : ((List.range k).filter fun v => ls[v]? == some l0).length ≤ k := by have := List.length_filter_le (fun v => ls[v]? == some l0) (List.range k); simpa using this
    by_cases hlt : k < ls.length
    · obtain ⟨bl, ol, rfl, hcl⟩ := (HR.out.fr hfr fun _ _ => id).at_ (by rw [List.length_map]; omega)
      have h1 := hcl k (iv ls[k]) (by simp [hlt])
      have hkk : ls[k]? = some ls[k] := List.getElem?_eq_getElem hlt
      have hsucc : (List.range (k + 1)).filter (fun v => ls[v]? == some l0) = (List.range k).filter (fun v => ls[v]? == some l0) ++ (if ls[k] = l0 then [k] else []) := by
        rw [List.range_succ, List.filter_append]; congr 1; by_cases h : ls[k] = l0 <;> simp [hkk, h]
      have HS := Lib.hid hsucc
      have hki : (k : Int) < (ls.length : Int) := by omega
      clear hsucc hkk hcl
      generalize ls[k] = y at h1 HS
      generalize (List.range k).filter (fun v => ls[v]? == some l0) = l at hO hlen HS
      simp only [iv] at h1
      by_cases hb : y = l0
      · have e0 : ((y : Int) == (l0 : Int)) = true := by simp [hb]
        have HB := Lib.hid hb
        clear hb
        go_wp2_with (at_builtin; refine wpList_append_to rfl (.tmp 18) (.tmp 20) 22 rfl 3 i0 (.int .i64 0) 1 8 Try.underlying22 hi hz0 hz1 hz2 rfl (by decide) (l.length + 1) (l.map iv ++ [iv k]) rfl (hO.fr ((Fr.refl No _).alloc _) fun _ _ => id) rfl (Rd.one (World.cell?_alloc_new _ _ _ 0)) (by simp [Value.oneCell']) rfl rfl (by omega) (by simp only [maxLen]; omega) ?_; intro A5 c5 w5 hO5 hfr5 hA5)
        have hfr6 : Fr No w w5 := (hfr.alloc _).new hfr5 hA
        have hA6 : ∀ b, InA A5 b → w.heap.size ≤ b := fun b hb => (hA5 b hb).elim (hA b) fun h => Nat.le_trans (hfr.alloc _).size h
        have HO := Lib.hid hO5
        clear hO hO5 hfr5 hA5 hfr h1 e0
        go_roundg (ls.length - (k + 1))
        case measure => rw [HG.out]; omega
        case rel => exact ⟨k + 1, rfl, by omega, rfl, ⟨A5, c5, by rw [HS.out, if_pos HB.out]; simp, by rw [HS.out, if_pos HB.out]; simpa using HO.out, hA6⟩, hfr6⟩
      · have e0 : ((y : Int) == (l0 : Int)) = false := by simp; omega
        have HB := Lib.hid hb
        have HO := Lib.hid hO
        clear hb hO
        go_wp2_with fail
        go_roundg (ls.length - (k + 1))
        case measure => rw [HG.out]; omega
        case rel => exact ⟨k + 1, rfl, by omega, rfl, ⟨A, c, by rw [HS.out, if_neg HB.out]; simp, by rw [HS.out, if_neg HB.out]; simpa using HO.out, hA⟩, hfr⟩
    · have : k = ls.length := by omega
      subst this
      have HC := Lib.hid (show Coll wr w.heap.size ((List.range ls.length).filter fun v => ls[v]? == some l0) _ from ⟨A, c, rfl, hO, hA⟩)
      clear hO
      go_wp2_with fail
      go_ret
      exact ⟨_, rfl, HC.out, hfr⟩
end Gar
