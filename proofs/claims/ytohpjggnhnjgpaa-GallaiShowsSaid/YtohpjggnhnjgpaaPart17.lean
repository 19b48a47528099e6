/-
  PROVED: lemmas of the claim; no condition beyond what each one states.
  Walks: the reference's Without.
-/
import Derived.Test.YtohpjggnhnjgpaaPart13
import Derived.Test.YtohpjggnhnjgpaaPart2
import Derived.Test.YtohpjggnhnjgpaaPart11
import Derived.Test.YtohpjggnhnjgpaaPart16
set_option linter.unusedVariables false
set_option linter.unusedSimpArgs false

namespace Gar
open Go Go.RowKit Go.Proofs
set_option maxRecDepth 100000
set_option maxHeartbeats 3200000
variable {w : World} {n : Nat} {es : List (Nat × Nat)}

/-- Of slices: how long each is. -/
def Lens (vals : List Value) (L : List (List Nat)) : Prop := vals.length = L.length ∧ ∀ (i : Nat) (l : List Nat), L[i]? = some l → ∃ (A' : Option Addr) (c' : Nat), vals[i]? = some (Value.slice A' l.length c')
theorem Lens.nil : Lens [] [] := ⟨rfl, fun i l h => by simp at h⟩
theorem Lens.snoc {vals : List Value} {L : List (List Nat)} (h : Lens vals L) (l : List Nat) (A : Option Addr) (c : Nat) : Lens (vals ++ [Value.slice A l.length c]) (L ++ [l]) := by
  refine ⟨by simp [h.1], fun i k hk => ?_⟩
  rcases Nat.lt_or_ge i L.length with hi | hi
  · rw [List.getElem?_append_left hi] at hk
    obtain ⟨A', c', e⟩ := h.2 i k hk
    exact ⟨A', c', by rw [List.getElem?_append_left (by rw [h.1]; exact hi)]; exact e⟩
  · rw [List.getElem?_append_right hi] at hk
    have : i = L.length := by
      rcases Nat.eq_or_lt_of_le hi with e | e
      · exact e.symm
      · rw [List.getElem?_eq_none (by simp; omega)] at hk; cases hk
    subst this
    simp at hk; subst hk
    exact ⟨A, c, by rw [← h.1]; simp⟩

def WithoutPost (w : World) (n : Nat) (es : List (Nat × Nat)) (P : Nat → Prop) (e : Ending) (w' : World) : Prop :=
  ∃ L A c vals, Pieces n (adjOf es) P L ∧ e = .returned (.slice A L.length c) ∧ Ow w' 1 A L.length c vals ∧ Lens vals L ∧ Fr No w w' ∧ ∀ x, InA A x → w.heap.size ≤ x

/-- The labels while they are laid. -/
def half (n k : Nat) (out : List Nat) : List Value := (List.range n).map fun v => if v < k then ev (lab0 out v) else iv 0
theorem half_len (n k : Nat) (out : List Nat) : (half n k out).length = n := by simp [half]
theorem half_get {n k v : Nat} {out : List Nat} (h : v < n) : (half n k out)[v]? = some (if v < k then ev (lab0 out v) else iv 0) := by simp [half, h]
theorem half_zero (n : Nat) (out : List Nat) : half n 0 out = List.replicate n (iv 0) := List.ext_getElem? fun v => by
  rw [List.getElem?_replicate]
  by_cases h : v < n
  · rw [half_get h, if_pos h]; simp
  · rw [if_neg h, List.getElem?_eq_none (by rw [half_len]; omega)]
theorem half_all (n : Nat) (out : List Nat) : half n n out = mv n (lab0 out) := by
  unfold half mv
  exact List.map_congr_left fun v hv => by rw [if_pos (List.mem_range.1 hv)]
theorem half_put {n k : Nat} {out : List Nat} (h : k < n) : half n (k + 1) out = (half n k out).set k (ev (lab0 out k)) := by
  apply List.ext_getElem?
  intro v
  rw [List.getElem?_set]
  by_cases hv : v < n
  · rw [half_get hv]
    by_cases e : k = v
    · subst e; simp [half_len, h]
    · rw [if_neg e, half_get hv]
      by_cases h1 : v < k
      · rw [if_pos h1, if_pos (by omega)]
      · rw [if_neg h1, if_neg (by omega)]
  · rw [List.getElem?_eq_none (by rw [half_len]; omega)]
    by_cases e : k = v
    · omega
    · rw [if_neg e, List.getElem?_eq_none (by rw [half_len]; omega)]

def Wo1 (w3 : World) (n bl : Nat) (out : List Nat) (g : Nat) (x : Value) (wr : World) : Prop :=
  ∃ k : Nat, x = .int .i64 (k : Int) ∧ k ≤ n ∧ g = n - k ∧ Ow wr 1 (some ⟨bl, 0, none⟩) n n (half n k out) ∧ Fr (fun x => x = bl) w3 wr
def LabAt (w3 : World) (n bl : Nat) (es : List (Nat × Nat)) (P : Nat → Prop) (f : Nat → Option Nat) (wr : World) : Prop :=
  LabOk n (adjOf es) P f ∧ Ow wr 1 (some ⟨bl, 0, none⟩) n n (mv n f) ∧ Fr (fun x => x = bl) w3 wr
def Wo2 (w3 : World) (n bl : Nat) (es : List (Nat × Nat)) (P : Nat → Prop) (g : Nat) (x : Value) (wr : World) : Prop :=
  ∃ (f : Nat → Option Nat) (b : Bool), x = .bool b ∧ LabAt w3 n bl es P f wr ∧ (b = false → LabDone es f) ∧ g = (if b then sumL n f + 1 else 0)
def Wo2i (w3 : World) (n bl : Nat) (es : List (Nat × Nat)) (P : Nat → Prop) (s : Nat) (g : Nat) (x x7 : Value) (wr : World) : Prop :=
  ∃ (i : Nat) (f : Nat → Option Nat) (b : Bool), x = .int .i64 (i : Int) ∧ x7 = .bool b ∧ i ≤ es.length ∧ g = es.length - i ∧ LabAt w3 n bl es P f wr ∧ (b = false → LabDone (es.take i) f ∧ sumL n f ≤ s) ∧ (b = true → sumL n f < s)
theorem LabAt.step {w3 wp : World} {bl a b x y m nq : Nat} {P : Nat → Prop} {f : Nat → Option Nat} (h : LabAt w3 n bl es P f wp) (ha : a < n) (hb : b < n) (hab : adjOf es a b) (hx : f a = some x) (hy : f b = some y) (hm : m = min x y) :
    LabAt w3 n bl es P (low2 f a b m) (((wp.drewN nq).setCell ⟨bl, a, none⟩ (.int .i64 (m : Int))).setCell ⟨bl, b, none⟩ (.int .i64 (m : Int))) := by
  have hO := ((h.2.1.fr (S := No) ((Fr.refl _ wp).drewN nq) fun _ _ => id).set a (ev (some m))).set b (ev (some m))
  rw [mv_set, mv_set] at hO
  simp only [Nat.zero_add, ev] at hO
  refine ⟨by rw [hm]; exact h.1.step (fun u v h => h.symm) ha hb hab hx hy, hO, ((h.2.2.drewN nq).setCell _ _ fun _ => rfl).setCell _ _ fun _ => rfl⟩

def Wo3 (w : World) (n : Nat) (f : Nat → Option Nat) (g : Nat) (x x12 : Value) (wr : World) : Prop :=
  ∃ (v : Nat) (A : Option Addr) (c : Nat) (vals : List Value) (L : List (List Nat)), x = .int .i64 (v : Int) ∧ x12 = .slice A L.length c ∧ v ≤ n ∧ g = n - v ∧ L = ((List.range v).filter fun u => f u == some u).map (labPiece n f) ∧ Ow wr 1 A L.length c vals ∧ Lens vals L ∧ (∀ b, InA A b → w.heap.size ≤ b) ∧ Fr No w wr

theorem without_spec {Ae Ao : Option Addr} {ce co : Nat} {out : List Nat} (hG : Good n es) (hR : Rd w 2 Ae es.length (cellsOf es)) (hol : out.length ≤ 1000000) (hout : Rd w 1 Ao out.length (out.map iv)) :
    Calls Try.prog 58 #[.agg #[.int .i64 (n : Int), .slice Ae es.length ce], .slice Ao out.length co] w (WithoutPost w n es (fun v => v < n ∧ v ∉ out)) := by
  have hn := hG.n_le
  have hm := hG.m_le
  have f1 : Fr No w (w.alloc (.cells #[.int .i64 (n : Int), .slice Ae es.length ce] 25)) := (Fr.refl _ _).alloc _
  have cg := Cs.new w 25 #[.int .i64 (n : Int), .slice Ae es.length ce]
  have g0 := cg.cell 0
  have g1 := cg.cell 1
  simp only [List.getElem?_toArray, List.getElem?_cons_zero, List.getElem?_cons_succ] at g0 g1
  have HG := Lib.hid hG
  have HR := Lib.hid (hR.fr f1 fun _ _ => id)
  have HOU := Lib.hid (hout.fr f1 fun _ _ => id)
  obtain ⟨i0, hi, hz0, hz1, hz2⟩ := info_parts info_int
  obtain ⟨iS, hSi, hSz, hS1, hS2⟩ := info_parts info_ints
  clear cg hR hG hout
  go_enter Try.func58, Try.ntmps58
  go_upto_region 1 with (fail)
  generalize w.alloc (.cells #[.int .i64 (n : Int), .slice Ae es.length ce] 25) = w1 at f1 g0 g1 HR HOU ⊢
  generalize w.heap.size = b2 at g0 g1 ⊢
  go_wp2_with fail
  refine (right2_spec HG.out HR.out).mono ?_
  rintro e w2 ⟨rfl, hfr2⟩
  have g0 := hfr2.cell g0 id
  have g1 := hfr2.cell g1 id
  have f2 := f1.step hfr2
  have HR2 := Lib.hid (HR.out.fr hfr2 fun _ _ => id)
  have HOU2 := Lib.hid (HOU.out.fr hfr2 fun _ _ => id)
  clear hfr2 f1
  go_upto_region 4 with (at_make; refine wpList_make_ow rfl _ _ 22 rfl 3 i0 (.int .i64 0) Try.underlying22 hi hz0 hz1 (by simp [Value.cells]) _ _ _ _ n rfl rfl rfl rfl (by rw [hz2]; omega) (by simp only [maxLen]; omega) ?_; intro bl w3 hbl hOl hfr3)
  have hlt2 : b2 < w2.heap.size := World.block_lt_of_cell? w2 _ g0
  have g0 := hfr3.cell g0 id
  have g1 := hfr3.cell g1 id
  have f3 := f2.step hfr3
  have HR3 := Lib.hid (HR2.out.fr hfr3 fun _ _ => id)
  have HOU3 := Lib.hid (HOU2.out.fr hfr3 fun _ _ => id)
  have hoe : ∀ x, 0 < out.length → InA Ao x → x < bl := fun x h hx => Nat.lt_of_lt_of_le (HOU2.out.lt (by rw [List.length_map]; omega) x hx) hbl
  have hje : ∀ x, 0 < es.length → InA Ae x → x < bl := fun x h hx => Nat.lt_of_lt_of_le (HR2.out.lt (by rw [cellsOf_len]; omega) x hx) hbl
  have HOE := Lib.hid hoe
  have HJE := Lib.hid hje
  have hsb : w.heap.size ≤ bl := Nat.le_trans f2.size hbl
  have h2l : b2 ≠ bl := by omega
  have hOl' : Ow w3 1 (some ⟨bl, 0, none⟩) n n (half n 0 out) := by rw [half_zero]; exact hOl
  have HOL := Lib.hid hOl'
  clear hoe hje hOl hOl' hfr3 f2
  go_wp2_with fail
  go_loopg [6] n (Wo1 w3 n bl out)
  case atStart => exact ⟨0, rfl, by omega, by omega, HOL.out, Fr.refl _ _⟩
  case round =>
    clear HOL
    obtain ⟨k, rfl, hk, hg, hO, hfr⟩ := hrel
    have HGK := Lib.hid hg
    have q0 := hfr.cell g0 h2l
    have q1 := hfr.cell g1 h2l
    clear hg
    by_cases hlt : k < n
    · obtain ⟨ca, za⟩ := hO.cellAt (half_get (k := k) (out := out) hlt)
      generalize (if k < k then ev (lab0 out k) else iv 0) = va at ca
      have hput := half_put (out := out) hlt
      have HP := Lib.hid hput
      have hset := hO.set k (iv k)
      have hfs : Fr (fun x => x = bl) wr (wr.setCell ⟨bl, 0 + k, none⟩ (iv k)) := (Fr.refl (fun x => x = bl) wr).setCell _ _ fun _ => rfl
      simp only [Nat.zero_add, iv] at ca za hset hfs
      have cb := World.cell?_setCell_same wr ⟨bl, k, none⟩ (.int .i64 (k : Int)) ca
      have zb : (wr.setCell ⟨bl, k, none⟩ (.int .i64 (k : Int))).frozen? ⟨bl, k, none⟩ = false := by rw [World.frozen?_setCell]; exact za
      have q0' := hfs.cell q0 h2l
      have q1' := hfs.cell q1 h2l
      have hfr5 := hfr.step hfs
      have hki : (k : Int) < (n : Int) := by omega
      clear hput
      go_upto_region 8 with (fail)
      generalize wr.setCell ⟨bl, k, none⟩ (.int .i64 (k : Int)) = w5 at hset hfs cb zb q0' q1' hfr5 ⊢
      have HS := Lib.hid hset
      have HOU5 := Lib.hid (show Rd w5 1 Ao out.length (out.map iv) from by
        rcases Nat.eq_zero_or_pos out.length with h | h
        · have : out = [] := List.eq_nil_of_length_eq_zero h
          subst this; exact Rd.nil_ _ _ _
        · exact HOU3.out.fr hfr5 fun b hb e => by have := HOE.out b h hb; omega)
      clear hO hfr hset ca za
      by_cases hin : k ∈ out
      · have hl0 : lab0 out k = none := by simp [lab0, hin]
        have hO6 := HS.out.set k (ev none)
        simp only [List.set_set, Nat.zero_add] at hO6
        rw [← hl0, ← HP.out] at hO6
        have HD := Lib.hid (decide_eq_true hin)
        have HO6 := Lib.hid hO6
        have hfr6 : Fr (fun x => x = bl) w3 (w5.setCell ⟨bl, k, none⟩ (.int .i64 (-1))) := hfr5.setCell _ _ fun _ => rfl
        clear hl0 hO6 hin
        go_wp2_with (go_at_call 14; refine (in_spec hol HOU5.out).mono ?_; rintro e w' ⟨rfl, rfl⟩; rw [HD.out])
        go_roundg (n - (k + 1))
        case measure => rw [HGK.out]; omega
        case rel => exact ⟨k + 1, rfl, by omega, rfl, by have := HO6.out; simpa [lab0, ev, of_decide_eq_true HD.out] using this, hfr6⟩
      · have hl0 : lab0 out k = some k := by simp [lab0, hin]
        have hO6 := HS.out
        rw [show Value.int .i64 (k : Int) = ev (lab0 out k) from by rw [hl0]; rfl, ← HP.out] at hO6
        have HD := Lib.hid (decide_eq_false hin)
        have HO6 := Lib.hid hO6
        clear hl0 hO6 hin
        go_wp2_with (go_at_call 14; refine (in_spec hol HOU5.out).mono ?_; rintro e w' ⟨rfl, rfl⟩; rw [HD.out])
        go_roundg (n - (k + 1))
        case measure => rw [HGK.out]; omega
        case rel => exact ⟨k + 1, rfl, by omega, rfl, HO6.out, hfr5⟩
    · have : k = n := by omega
      subst this
      rw [half_all] at hO
      have HL := Lib.hid (show LabAt w3 k bl es (fun v => v < k ∧ v ∉ out) (lab0 out) wr from ⟨lab0_ok, hO, hfr⟩)
      clear hO hfr
      go_wp2_with fail
      go_loopg [7] (sumL k (lab0 out) + 1) (Wo2 w3 k bl es (fun v => v < k ∧ v ∉ out))
      case atStart => exact ⟨lab0 out, true, rfl, HL.out, (fun h => by cases h), rfl⟩
      case round =>
        clear HL q0 q1
        obtain ⟨f, b, rfl, hLab, hdone, hg⟩ := hrel
        have q0 := hLab.2.2.cell g0 h2l
        have q1 := hLab.2.2.cell g1 h2l
        have HLab := Lib.hid hLab
        have HDn := Lib.hid hdone
        have HGK := Lib.hid hg
        clear hLab hdone hg
        cases b with
        | true =>
          go_wp2_with fail
          go_loopg [8, 7] es.length (Wo2i w3 k bl es (fun v => v < k ∧ v ∉ out) (sumL k f))
          case atStart => exact ⟨0, f, false, rfl, rfl, by omega, by omega, HLab.out, (fun _ => ⟨by simp [LabDone], Nat.le_refl _⟩), (fun h => by cases h)⟩
          case round =>
            obtain ⟨i, f2, b2', rfl, rfl, hi2, hg2, hL2, hi3, hi4⟩ := hrel
            have HG2 := Lib.hid hg2
            have HL2 := Lib.hid hL2
            have HI1 := Lib.hid hi3
            have HI2 := Lib.hid hi4
            have q0 := hL2.2.2.cell g0 h2l
            have q1 := hL2.2.2.cell g1 h2l
            clear hg2 hi3 hi4
            by_cases hlt2 : i < es.length
            · obtain ⟨be, oe, rfl, hce⟩ := (HR3.out.fr hL2.2.2 fun b hb e => by have := HJE.out b (by omega) hb; omega).at_ (by rw [cellsOf_len]; omega)
              obtain ⟨k1, k2⟩ := cellsOf_get hlt2
              have p1 := hce _ _ k1
              have p2 := hce _ _ k2
              obtain ⟨m1, m2⟩ := HG.out.mem _ (List.getElem_mem hlt2)
              have m3 : es[i].1 < k := by omega
              have c1 := (hL2.2.1.cellAt (mv_get (f := f2) m3)).1
              have c2 := (hL2.2.1.cellAt (mv_get (f := f2) m2)).1
              have z1 := (hL2.2.1.cellAt (mv_get (f := f2) m3)).2
              have z2 := (hL2.2.1.cellAt (mv_get (f := f2) m2)).2
              have hadj : adjOf es es[i].1 es[i].2 := .inl (List.getElem_mem hlt2)
              have htk : es.take (i + 1) = es.take i ++ [es[i]] := List.take_succ_eq_append_getElem hlt2
              have HT := Lib.hid htk
              have HAD := Lib.hid hadj
              have hii : (i : Int) < (es.length : Int) := by omega
              clear hce k1 k2 htk hadj hL2
              generalize es[i] = e at p1 p2 m1 m2 m3 c1 c2 z1 z2 HT HAD
              simp only [iv] at p1 p2
              rw [← Nat.add_assoc] at p2
              simp only [Nat.zero_add] at c1 c2 z1 z2
              have h1i : (e.1 : Int) < (k : Int) := by omega
              have h2i : (e.2 : Int) < (k : Int) := by omega
              go_upto_region 16 with (fail)
              go_quiet (fail)
              have hq : Fr No wr (wr.drewN nq) := (Fr.refl No wr).drewN nq
              have q0 := hq.cell q0 id
              have q1 := hq.cell q1 id
              have z1 := hq.frz c1 z1 id
              have z2 := hq.frz c2 z2 id
              have c1 := hq.cell c1 id
              have c2 := hq.cell c2 id
              have hL3 : LabAt w3 k bl es (fun v => v < k ∧ v ∉ out) f2 (wr.drewN nq) := ⟨HL2.out.1, HL2.out.2.1.fr hq fun _ _ => id, HL2.out.2.2.step hq.any⟩
              have HL2 := Lib.hid hL3
              generalize wr.drewN nq = wq at q0 q1 c1 c2 z1 z2 HL2 ⊢
              clear hL3 hq p1 p2
              cases hf1 : f2 e.1 with
              | none =>
                rw [hf1] at c1
                simp only [ev] at c1
                have HF1 := Lib.hid hf1
                generalize ev (f2 e.2) = vb at c2
                clear hf1
                go_upto_region 17 with (fail)
                go_quiet (fail)
                go_wp2_with fail
                go_roundg (es.length - (i + 1))
                case measure => rw [HG2.out]; omega
                case rel => exact ⟨i + 1, f2, b2', rfl, rfl, by omega, rfl, ⟨HL2.out.1, HL2.out.2.1.fr ((Fr.refl No _).drewN _) fun _ _ => id, HL2.out.2.2.drewN _⟩, (fun h => ⟨by rw [HT.out]; intro e' he'; rcases List.mem_append.1 he' with h1 | h1; exact (HI1.out h).1 e' h1; simp at h1; subst h1; exact .inl HF1.out, (HI1.out h).2⟩), HI2.out⟩
              | some x =>
                rw [hf1] at c1
                simp only [ev] at c1
                have HF1 := Lib.hid hf1
                have d1 : decide ((x : Int) < 0) = false := by simp
                clear hf1
                cases hf2 : f2 e.2 with
                | none =>
                  rw [hf2] at c2
                  simp only [ev] at c2
                  have HF2 := Lib.hid hf2
                  clear hf2
                  go_upto_region 17 with (fail)
                  go_quiet (fail)
                  go_wp2_with fail
                  go_roundg (es.length - (i + 1))
                  case measure => rw [HG2.out]; omega
                  case rel => exact ⟨i + 1, f2, b2', rfl, rfl, by omega, rfl, ⟨HL2.out.1, HL2.out.2.1.fr ((Fr.refl No _).drewN _) fun _ _ => id, HL2.out.2.2.drewN _⟩, (fun h => ⟨by rw [HT.out]; intro e' he'; rcases List.mem_append.1 he' with h1 | h1; exact (HI1.out h).1 e' h1; simp at h1; subst h1; exact .inr (.inl HF2.out), (HI1.out h).2⟩), HI2.out⟩
                | some y =>
                  rw [hf2] at c2
                  simp only [ev] at c2
                  have HF2 := Lib.hid hf2
                  have d2 : decide ((y : Int) < 0) = false := by simp
                  clear hf2
                  by_cases hxy : x = y
                  · subst hxy
                    have e0 : ((x : Int) == (x : Int)) = true := by simp
                    go_upto_region 17 with (fail)
                    go_quiet (fail)
                    go_wp2_with fail
                    go_roundg (es.length - (i + 1))
                    case measure => rw [HG2.out]; omega
                    case rel => exact ⟨i + 1, f2, b2', rfl, rfl, by omega, rfl, ⟨HL2.out.1, HL2.out.2.1.fr ((Fr.refl No _).drewN _) fun _ _ => id, HL2.out.2.2.drewN _⟩, (fun h => ⟨by rw [HT.out]; intro e' he'; rcases List.mem_append.1 he' with h1 | h1; exact (HI1.out h).1 e' h1; simp at h1; subst h1; exact .inr (.inr (HF1.out.trans HF2.out.symm)), (HI1.out h).2⟩), HI2.out⟩
                  · have e0 : ((x : Int) == (y : Int)) = false := by simp; omega
                    have HXY := Lib.hid hxy
                    clear hxy
                    go_upto_region 17 with (fail)
                    go_quiet (fail)
                    go_wp2_with fail
                    have hq2 : Fr No wq (wq.drewN nq) := (Fr.refl No wq).drewN nq
                    have q0 := hq2.cell q0 id
                    have q1 := hq2.cell q1 id
                    have z1 := hq2.frz c1 z1 id
                    have z2 := hq2.frz c2 z2 id
                    have c1 := hq2.cell c1 id
                    have c2 := hq2.cell c2 id
                    have HL3 := Lib.hid (show LabAt w3 k bl es (fun v => v < k ∧ v ∉ out) f2 (wq.drewN nq) from ⟨HL2.out.1, HL2.out.2.1.fr hq2 fun _ _ => id, HL2.out.2.2.step hq2.any⟩)
                    generalize wq.drewN nq = wp at q0 q1 c1 c2 z1 z2 HL3 ⊢
                    clear hq2
                    have hii2 : i < es.length := hlt2
                    have HSUM := Lib.hid (show sumL k (low2 f2 e.1 e.2 (min x y)) < sumL k f from by
                      have h1 := low2_sum (n := k) m3 m2 HF1.out HF2.out HXY.out
                      cases b2' with
                      | true => have := HI2.out rfl; omega
                      | false => have := (HI1.out rfl).2; omega)
                    go_quiet (fail)
                    go_wp2_with fail
                    all_goals
                      rename_i hcmp
                      first
                        | (have hstep := LabAt.step (m := y) (nq := nq) HL3.out m3 m2 HAD.out HF1.out HF2.out (by omega)
                           have HST := Lib.hid hstep
                           have HMN := Lib.hid (show min x y = y from by omega))
                        | (have hstep := LabAt.step (m := x) (nq := nq) HL3.out m3 m2 HAD.out HF1.out HF2.out (by omega)
                           have HST := Lib.hid hstep
                           have HMN := Lib.hid (show min x y = x from by omega))
                      clear hstep c1 c2 z1 z2 q0 q1 hcmp
                      go_roundg (es.length - (i + 1))
                      case measure => rw [HG2.out]; omega
                      case rel => exact ⟨i + 1, _, true, rfl, rfl, by omega, rfl, HST.out, (fun h => by cases h), fun _ => by rw [← HMN.out]; exact HSUM.out⟩
            · have hi5 : i = es.length := by omega
              subst hi5
              go_wp2_with fail
              go_roundg (if b2' then sumL k f2 + 1 else 0)
              case measure =>
                rw [HGK.out]
                cases b2' with
                | true => have := HI2.out rfl; simp; omega
                | false => simp
              case rel => exact ⟨f2, b2', rfl, HL2.out, (fun h => by have := (HI1.out h).1; rwa [List.take_length] at this), rfl⟩
        | false =>
          obtain ⟨wz, rfl⟩ : ∃ z, z = wr := ⟨_, rfl⟩
          have hD := HDn.out rfl
          have HD := Lib.hid hD
          have hfw : Fr No w wz := f3.trans HLab.out.2.2 fun x hx e => by subst e; omega
          have HPC := Lib.hid (HLab.out.1.pieces hD fun u hu => hu.1)
          have HLC := Lib.hid (show ∀ v, v < k → wz.cell? ⟨bl, v, none⟩ = some (ev (f v)) from fun v hv => by have := (HLab.out.2.1.cellAt (mv_get (f := f) hv)).1; simpa using this)
          clear hD
          go_wp2_with fail
          go_loopg [13, 12] k (Wo3 wz k f)
          case atStart => exact ⟨0, none, 0, [], [], rfl, rfl, by omega, rfl, by simp, Ow.nil_ _ _, Lens.nil, (fun x ⟨ad, h, _⟩ => by cases h), Fr.refl _ _⟩
          case round =>
            obtain ⟨v, A, c, vals, L, rfl, rfl, hv, hg3, hL, hO, hlens, hA, hfr3⟩ := hrel
            have HG3 := Lib.hid hg3
            have HLL := Lib.hid hL
            have HX := Lib.hid (show Ow wr 1 A L.length c vals ∧ Lens vals L from ⟨hO, hlens⟩)
            have q0 := hfr3.cell q0 id
            have hLn : L.length ≤ k := by
              rw [hL, List.length_map]
              have := List.length_filter_le (fun u => f u == some u) (List.range v)
              rw [List.length_range] at this; omega
            clear hg3 hL hO hlens
            by_cases hlt3 : v < k
            · have c1 := hfr3.cell (HLC.out v hlt3) id
              have hsucc : ((List.range (v + 1)).filter fun u => f u == some u).map (labPiece k f) = ((List.range v).filter fun u => f u == some u).map (labPiece k f) ++ (if f v = some v then [labPiece k f v] else []) := by
                rw [List.range_succ, List.filter_append, List.map_append]; congr 1
                by_cases h : f v = some v <;> simp [h]
              have HS := Lib.hid hsucc
              have hvi : (v : Int) < (k : Int) := by omega
              clear hsucc
              by_cases hf : f v = some v
              · rw [hf] at c1
                simp only [ev] at c1
                have HF := Lib.hid hf
                clear hf
                obtain ⟨wy, rfl⟩ : ∃ z, z = wr := ⟨_, rfl⟩
                have HAA := Lib.hid hA
                have HF3 := Lib.hid hfr3
                clear hA hfr3
                go_wp2_with fail
                go_loopg [15, 14] k (CollRel wy k (fun u => f u == some v))
                case atStart => exact ⟨0, rfl, by omega, rfl, ⟨none, 0, rfl, Ow.nil_ _ _, (fun x ⟨ad, h, _⟩ => by cases h)⟩, Fr.refl _ _⟩
                case round =>
                  obtain ⟨u, rfl, hu, hg4, ⟨A4, c4, rfl, hO4, hA4⟩, hfr4⟩ := hrel
                  have HG4 := Lib.hid hg4
                  clear hg4
                  have q0 := hfr4.cell q0 id
                  have hlen : ((List.range u).filter fun t => f t == some v).length ≤ u := by have := List.length_filter_le (fun t => f t == some v) (List.range u); simpa using this
                  by_cases hlt4 : u < k
                  · have c1 := hfr4.cell (HF3.out.cell (HLC.out u hlt4) id) id
                    have hsu : (List.range (u + 1)).filter (fun t => f t == some v) = (List.range u).filter (fun t => f t == some v) ++ (if f u = some v then [u] else []) := by
                      rw [List.range_succ, List.filter_append]; congr 1
                      by_cases h : f u = some v <;> simp [h]
                    have HSU := Lib.hid hsu
                    clear hsu
                    have hui : (u : Int) < (k : Int) := by omega
                    generalize (List.range u).filter (fun t => f t == some v) = l at hO4 hlen HSU
                    by_cases hb : f u = some v
                    · rw [hb] at c1
                      simp only [ev] at c1
                      have HB := Lib.hid hb
                      clear hb
                      have e0 : ((v : Int) == (v : Int)) = true := by simp
                      go_wp2_with (at_builtin; refine wpList_append_to rfl (.tmp 122) (.tmp 124) 22 rfl 3 i0 (.int .i64 0) 1 8 Try.underlying22 hi hz0 hz1 hz2 rfl (by decide) (l.length + 1) (l.map iv ++ [iv u]) rfl (hO4.fr ((Fr.refl No _).alloc _) fun _ _ => id) rfl (Rd.one (World.cell?_alloc_new _ _ _ 0)) (by simp [Value.oneCell']) rfl rfl (by omega) (by simp only [maxLen]; omega) ?_; intro A5 c5 w5 hO5 hfr5 hA5)
                      have hfr6 : Fr No wy w5 := (hfr4.alloc _).new hfr5 hA4
                      have hA6 : ∀ b, InA A5 b → wy.heap.size ≤ b := fun b hb => (hA5 b hb).elim (hA4 b) fun h => Nat.le_trans (hfr4.alloc _).size h
                      have HO := Lib.hid hO5
                      clear hO4 hO5 hfr5 hA5 hfr4 c1
                      go_roundg (k - (u + 1))
                      case measure => rw [HG4.out]; omega
                      case rel => exact ⟨u + 1, rfl, by omega, rfl, ⟨A5, c5, by rw [HSU.out, if_pos HB.out]; simp, by rw [HSU.out, if_pos HB.out]; simpa using HO.out, hA6⟩, hfr6⟩
                    · obtain ⟨y, hy, hyn⟩ : ∃ y : Int, ev (f u) = .int .i64 y ∧ (y == (v : Int)) = false := by
                        cases hfe : f u with
                        | none => exact ⟨-1, rfl, by first | (simp; done) | (simp; omega)⟩
                        | some t => exact ⟨t, rfl, by simp; intro h; exact hb (by rw [hfe]; congr 1; omega)⟩
                      rw [hy] at c1
                      have HB := Lib.hid hb
                      have HO := Lib.hid hO4
                      clear hb hy hO4
                      go_wp2_with fail
                      go_roundg (k - (u + 1))
                      case measure => rw [HG4.out]; omega
                      case rel => exact ⟨u + 1, rfl, by omega, rfl, ⟨A4, c4, by rw [HSU.out, if_neg HB.out]; simp, by rw [HSU.out, if_neg HB.out]; simpa using HO.out, hA4⟩, hfr4⟩
                  · have hu9 : u = k := by omega
                    subst hu9
                    have hfr9 := HF3.out.step hfr4
                    have hO8 := HX.out.1.fr hfr4 fun _ _ => id
                    have HO8 := Lib.hid hO8
                    have HLN := Lib.hid (HX.out.2.snoc ((List.range u).filter fun t => f t == some v) A4 c4)
                    clear hO4 hO8 hA4
                    obtain ⟨pl, hpl⟩ : ∃ pl, pl = ((List.range u).filter fun t => f t == some v) := ⟨_, rfl⟩
                    have HPL := Lib.hid hpl
                    rw [← hpl] at HLN ⊢
                    clear hlen hpl
                    go_wp2_with (at_builtin; refine wpList_append_to rfl (.tmp 126) (.tmp 128) 33 rfl 22 iS (.slice none 0 0) 1 24 Try.underlying33 hSi hSz hS1 hS2 rfl (by decide) (L.length + 1) (vals ++ [.slice A4 pl.length c4]) rfl (HO8.out.fr ((Fr.refl No _).alloc _) fun _ _ => id) rfl (Rd.one (World.cell?_alloc_new _ _ _ 0)) (by simp [Value.oneCell']) rfl rfl (by omega) (by simp only [maxLen]; omega) ?_; intro A5 c5 w5 hO5 hfr5 hA5)
                    have hfr6 : Fr No wz w5 := (hfr9.alloc _).new hfr5 HAA.out
                    have hA6 : ∀ b, InA A5 b → wz.heap.size ≤ b := fun b hb => (hA5 b hb).elim (HAA.out b) fun h => Nat.le_trans (hfr9.alloc _).size h
                    have HO := Lib.hid hO5
                    clear hO5 hfr5 hA5 hfr4 hfr9
                    go_roundg (u - (v + 1))
                    case measure => rw [HG3.out]; omega
                    case rel => exact ⟨v + 1, A5, c5, _, L ++ [pl], rfl, by simp, by omega, rfl, by rw [HS.out, if_pos HF.out, HLL.out, HPL.out]; rfl, by simpa using HO.out, HLN.out, hA6, hfr6⟩
              · obtain ⟨y, hy, hyn⟩ : ∃ y : Int, ev (f v) = .int .i64 y ∧ (y != (v : Int)) = true := by
                  cases hfe : f v with
                  | none => exact ⟨-1, rfl, by first | (simp; done) | (simp; omega)⟩
                  | some u => exact ⟨u, rfl, by simp; intro h; exact hf (by rw [hfe]; congr 1; omega)⟩
                rw [hy] at c1
                have HF := Lib.hid hf
                clear hf hy
                go_wp2_with fail
                go_roundg (k - (v + 1))
                case measure => rw [HG3.out]; omega
                case rel => exact ⟨v + 1, A, c, vals, L, rfl, rfl, by omega, rfl, by rw [HS.out, if_neg HF.out, List.append_nil]; exact HLL.out, HX.out.1, HX.out.2, hA, hfr3⟩
            · have : v = k := by omega
              subst this
              go_wp2_with fail
              go_ret
              exact ⟨L, A, c, vals, by rw [HLL.out]; exact HPC.out, rfl, HX.out.1, HX.out.2, hfw.step hfr3, fun x hx => Nat.le_trans hfw.size (hA x hx)⟩
end Gar
