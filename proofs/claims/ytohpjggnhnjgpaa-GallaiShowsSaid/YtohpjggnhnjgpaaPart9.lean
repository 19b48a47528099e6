/-
  PROVED: lemmas of the claim; no condition beyond what each one states.
  Walks: Next, Grow.
-/
import Derived.Test.YtohpjggnhnjgpaaPart4
set_option linter.unusedVariables false
set_option linter.unusedSimpArgs false

namespace Gar
open Go Go.RowKit Go.Proofs
set_option maxRecDepth 100000
set_option maxHeartbeats 1600000
variable {w : World} {own : Nat → Prop} {K : Nat → Nat} {n : Nat} {mate : Nat → Option Nat} {S : FS} {rep : Nat → Nat}

def NextPost (w : World) (own : Nat → Prop) (K : Nat → Nat) (n : Nat) (mate : Nat → Option Nat) (S : FS) (e : Ending) (w' : World) : Prop :=
  (S.wait = [] ∧ e = .returned (.tuple #[iv 0, .bool false]) ∧ w' = w) ∨
  ∃ v t, S.wait = v :: t ∧ e = .returned (.tuple #[iv v, .bool true]) ∧ FM w' own K n mate { S with wait := t } ∧ Fr own w w'

theorem FM.pop {S : FS} (h : FM w own K n mate S) {v : Nat} {t : List Nat} (hw : S.wait = v :: t) :
    ∃ b o nw cw, w.cell? ⟨K 13, 14, none⟩ = some (.slice (some ⟨b, o, none⟩) nw cw) ∧ nw = t.length + 1 ∧ nw ≤ cw ∧ w.cell? ⟨b, o, none⟩ = some (iv v) ∧
      FM (w.setCell ⟨K 13, 14, none⟩ (.slice (if cw = 1 then some ⟨b, o, none⟩ else some ⟨b, o + 1, none⟩) (nw - 1) (cw - 1))) own K n mate { S with wait := t } := by
  obtain ⟨Am, cm, R, lk, Aw, nw, cw, f, ab⟩ := h
  have hO := f.wait
  have hl := hO.len
  rw [hw] at hl hO
  simp only [List.map_cons, List.length_cons, List.length_map, Nat.mul_one] at hl hO
  obtain ⟨b, o, rfl⟩ := hO.some (by omega)
  have hc := (hO.cellAt (i := 0) (u := iv v) rfl).1
  have f2 := f.setWt (S := No) (Fr.refl (InA (some ⟨b, o, none⟩)) w) hO.tail (fun b' hb => by
    rcases Nat.lt_or_ge cw 1 with _ | _ <;> · obtain ⟨ad, e, rfl⟩ := hb; split at e <;> (injection e with e; subst e; exact .inl ⟨_, rfl, rfl⟩))
  have ho : ∀ x, (own x ∨ InA (if cw = 1 then some ⟨b, o, none⟩ else some ⟨b, o + 1, none⟩) x) ↔ own x := fun x => ⟨fun h => h.elim id fun ⟨ad, e, h⟩ => by
    subst h; refine f.waitOwn _ ?_
    split at e <;> (injection e with e; subst e; exact ⟨_, rfl, rfl⟩), .inl⟩
  have : (fun x => own x ∨ InA (if cw = 1 then some ⟨b, o, none⟩ else some ⟨b, o + 1, none⟩) x) = own := funext fun x => propext (ho x)
  rw [this] at f2
  exact ⟨b, o, nw, cw, f.hd14, by omega, hO.le, by simpa using hc, Am, cm, R, lk, _, _, _, f2, ab.1, ab.2, ab.3, ab.4, ab.5, ab.6, ab.7, ab.8, ab.9, ab.10, ab.11, ab.12⟩

theorem next_spec (hF : FM w own K n mate S) (hl : S.wait.length ≤ 1000000) :
    Calls Try.prog 68 #[.pointer (some ⟨K 13, 0, none⟩)] w (NextPost w own K n mate S) := by
  cases hw : S.wait with
  | nil =>
    obtain ⟨Aw, nw, cw, h1, hO, _⟩ := hF.hWait
    have hn := hO.len
    rw [hw] at hn
    have h0 : nw = 0 := by simpa using hn.symm
    subst h0
    have H := Lib.hid hw
    clear hw
    go_enter Try.func68, Try.ntmps68
    go_wp2_with fail
    go_ret2
    exact .inl ⟨H.out, rfl, rfl⟩
  | cons v t =>
    obtain ⟨b, o, nw, cw, h1, h2, h3, h4, hF2⟩ := hF.pop hw
    have hz := hF.hz 14
    have hlt : t.length + 1 ≤ 1000000 := by rw [hw] at hl; simpa using hl
    have H := Lib.hid hw
    have e0 : ((nw : Int) == 0) = false := by simp; omega
    have b1 : 1 ≤ nw := by omega
    have hfr : Fr own w (w.setCell ⟨K 13, 14, none⟩ (.slice (if cw = 1 then some ⟨b, o, none⟩ else some ⟨b, o + 1, none⟩) (nw - 1) (cw - 1))) := (Fr.refl _ _).setCell _ _ fun _ => hF.owns 13 (by omega)
    simp only [iv] at h4
    clear h2 hw hF
    by_cases hc : cw = 1
    · subst hc
      obtain rfl : nw = 1 := by omega
      simp only [if_true, Nat.sub_self] at hF2 hfr
      go_enter Try.func68, Try.ntmps68
      go_wp2_with fail
      go_ret2
      exact .inr ⟨v, t, H.out, rfl, hF2, hfr⟩
    · rw [if_neg hc] at hF2 hfr
      have b3 : 2 ≤ cw := by omega
      go_enter Try.func68, Try.ntmps68
      go_wp2_with fail
      go_ret2
      exact .inr ⟨v, t, H.out, rfl, hF2, hfr⟩

/-- A tree has a vertex more, and its mate. -/
def FS.grow (S : FS) (v u x : Nat) : FS :=
  { S with label := fun y => if y = x then (if (if x = u then 2 else S.label x) = 0 then 1 else (if x = u then 2 else S.label x)) else (if y = u then 2 else S.label y),
           outer := fun y => if y = x then true else S.outer y, pred := fun y => if y = u then v else S.pred y,
           root := fun y => if y = x then S.root v else (if y = u then S.root v else S.root y), wait := S.wait ++ [x] }

def GrowPost (w : World) (own : Nat → Prop) (K : Nat → Nat) (n : Nat) (mate : Nat → Option Nat) (S : FS) (v u x : Nat) (e : Ending) (w' : World) : Prop :=
  e = .returned (.tuple #[]) ∧ ∃ own', FM w' own' K n mate (S.grow v u x) ∧ Stp own w own' w'

theorem grow_spec (hF : FM w own K n mate S) (hl : S.wait.length ≤ 1000000) {v u x : Nat} (hv : v < n) (hu : u < n) (hx : x < n) (hm : mate u = some x) (hvu : v ≠ u) :
    Calls Try.prog 70 #[.pointer (some ⟨K 13, 0, none⟩), iv v, iv u] w (GrowPost w own K n mate S v u x) := by
  obtain ⟨x4, h4⟩ := hF.gEven hv
  obtain ⟨x5, h5⟩ := hF.gOdd hu
  have a2 := hF.hd 2 (by omega)
  have a4 := hF.hd 4 (by omega)
  have a5 := hF.hd 5 (by omega)
  have a6 := hF.hd 6 (by omega)
  have a7 := hF.hd 7 (by omega)
  have b2 := hF.gLabel hu
  have b6 := hF.gPred hu
  have b7 := hF.gRoot hu
  obtain ⟨r7, hr7⟩ : ∃ r, w.cell? ⟨K 7, v, none⟩ = some r ∧ r = ev (S.root v) := ⟨_, hF.gRoot hv, rfl⟩
  obtain ⟨hr7, er⟩ := hr7
  obtain ⟨k7, ek⟩ : ∃ k, ev (S.root v) = .int .i64 k := by cases S.root v <;> exact ⟨_, rfl⟩
  rw [ek] at er; subst er
  have z2 := hF.fz 2 (by omega) u
  have z5 := hF.fz 5 (by omega) u
  have z6 := hF.fz 6 (by omega) u
  have z7 := hF.fz 7 (by omega) u
  have d1 := hF.ne 2 13 (by omega) (by omega) (by omega)
  have d2 := hF.ne 13 2 (by omega) (by omega) (by omega)
  have d3 := hF.ne 2 4 (by omega) (by omega) (by omega)
  have d4 := hF.ne 4 2 (by omega) (by omega) (by omega)
  have d5 := hF.ne 2 6 (by omega) (by omega) (by omega)
  have d6 := hF.ne 2 7 (by omega) (by omega) (by omega)
  have d7 := hF.ne 2 5 (by omega) (by omega) (by omega)
  have d8 := hF.ne 6 13 (by omega) (by omega) (by omega)
  have d9 := hF.ne 13 6 (by omega) (by omega) (by omega)
  have d10 := hF.ne 6 4 (by omega) (by omega) (by omega)
  have d11 := hF.ne 4 6 (by omega) (by omega) (by omega)
  have d12 := hF.ne 6 2 (by omega) (by omega) (by omega)
  have d13 := hF.ne 6 7 (by omega) (by omega) (by omega)
  have d14 := hF.ne 6 5 (by omega) (by omega) (by omega)
  have d15 := hF.ne 7 13 (by omega) (by omega) (by omega)
  have d16 := hF.ne 13 7 (by omega) (by omega) (by omega)
  have d17 := hF.ne 7 4 (by omega) (by omega) (by omega)
  have d18 := hF.ne 4 7 (by omega) (by omega) (by omega)
  have d19 := hF.ne 7 2 (by omega) (by omega) (by omega)
  have d20 := hF.ne 7 6 (by omega) (by omega) (by omega)
  have d21 := hF.ne 7 5 (by omega) (by omega) (by omega)
  have d22 := hF.ne 5 13 (by omega) (by omega) (by omega)
  have d23 := hF.ne 13 5 (by omega) (by omega) (by omega)
  have d24 := hF.ne 5 4 (by omega) (by omega) (by omega)
  have d25 := hF.ne 4 5 (by omega) (by omega) (by omega)
  have d26 := hF.ne 5 2 (by omega) (by omega) (by omega)
  have d27 := hF.ne 5 6 (by omega) (by omega) (by omega)
  have d28 := hF.ne 5 7 (by omega) (by omega) (by omega)
  have huv : u ≠ v := Ne.symm hvu
  have hF1 := ((((hF.setLabel u 2).setPred u v).setRoot u (S.root v)).setOdd u (IntKind.i64.wrap (x4 + 1))).drew
  rw [ek] at hF1
  simp only [iv, Int.cast_ofNat_Int] at hF1
  have s1 : Stp own w own ((((w.setCell ⟨K 2, u, none⟩ (.int .i64 2)).setCell ⟨K 6, u, none⟩ (.int .i64 (v : Int))).setCell ⟨K 7, u, none⟩ (.int .i64 k7)).setCell ⟨K 5, u, none⟩ (.int .i64 (IntKind.i64.wrap (x4 + 1)))).drew :=
    (((((Stp.refl own w).set _ _ (hF.owns 2 (by omega))).set _ _ (hF.owns 6 (by omega))).set _ _ (hF.owns 7 (by omega))).set _ _ (hF.owns 5 (by omega))).drewN 1
  have EK := Lib.hid ek
  clear ek hF
  simp only [iv]
  go_enter Try.func70, Try.ntmps70
  go_wp2_with fail
  go_region_held3 (fun w' => w'.cell? ⟨K 13, 2, none⟩ = some (.slice (some ⟨K 2, 0, none⟩) n n) ∧ w'.cell? ⟨K 13, 4, none⟩ = some (.slice (some ⟨K 4, 0, none⟩) n n) ∧
      w'.cell? ⟨K 13, 5, none⟩ = some (.slice (some ⟨K 5, 0, none⟩) n n) ∧ w'.cell? ⟨K 13, 6, none⟩ = some (.slice (some ⟨K 6, 0, none⟩) n n) ∧ w'.cell? ⟨K 13, 7, none⟩ = some (.slice (some ⟨K 7, 0, none⟩) n n) ∧
      w'.cell? ⟨K 7, v, none⟩ = some (.int .i64 k7) ∧ w'.cell? ⟨K 4, v, none⟩ = some (.int .i64 x4)) (simp [*, World.cell?_setCell_far, World.cell?_setCell_other]) (fail)
  generalize ((((w.setCell ⟨K 2, u, none⟩ (.int .i64 2)).setCell ⟨K 6, u, none⟩ (.int .i64 (v : Int))).setCell ⟨K 7, u, none⟩ (.int .i64 k7)).setCell ⟨K 5, u, none⟩ (.int .i64 (IntKind.i64.wrap (x4 + 1)))).drew = w1 at hF1 s1 ⊢
  clear h4 h5 a2 a4 a5 a6 a7 b2 b6 b7 hr7 z2 z5 z6 z7 d1 d2 d3 d4 d5 d6 d7 d8 d9 d10 d11 d12 d13 d14 d15 d16 d17 d18 d19 d20 d21 d22 d23 d24 d25 d26 d27 d28
  obtain ⟨bm, cm, q1, _, q3⟩ := hF1.gMate hu
  have q2 := q3 u hu
  rw [hm] at q2; simp only [ev] at q2
  clear q3
  have a7 := hF1.hd 7 (by omega)
  have b7 := hF1.gRoot hv
  simp only [if_neg hvu] at b7
  rw [EK.out] at b7
  have c7 := hF1.gRoot hx
  have z7 := hF1.fz 7 (by omega) x
  have hF2 := (hF1.setRoot x (S.root v)).drew
  rw [EK.out] at hF2
  have s2 : Stp own w own (w1.setCell ⟨K 7, x, none⟩ (.int .i64 k7)).drew := (s1.set ⟨K 7, x, none⟩ (.int .i64 k7) (hF1.owns 7 (by omega))).drewN 1
  have HM := Lib.hid hm
  clear hm hF1
  go_upto_region 2 with (fail)
  go_still_tail 13, (by kernel_rfl)
  go_upto_region 3 with (fail)
  generalize (w1.setCell ⟨K 7, x, none⟩ (.int .i64 k7)).drew = w2 at hF2 s2 ⊢
  clear q1 q2 a7 b7 c7 z7 s1
  have a4 := hF2.hd 4 (by omega)
  obtain ⟨y4, b4⟩ := hF2.gEven hv
  go_wp2_with fail
  refine (raise_spec (l := 1) hF2 hl hx).mono ?_
  rintro e w3 ⟨rfl, own', hF3, s3⟩
  go_wp2_with fail
  refine bodyPost_end (results_none rfl _ _ _) rfl ?_
  exact ⟨rfl, own', hF3, s2.trans s3⟩
end Gar
