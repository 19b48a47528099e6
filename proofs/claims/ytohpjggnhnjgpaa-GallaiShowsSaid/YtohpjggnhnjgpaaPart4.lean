/-
  PROVED: lemmas of the claim; no condition beyond what each one states.
  Walks: first, Base.
  Walks: Gone, above, unite.
  Walks: raise, Look.
  Walks: Look.
  Walks: turned.
  Walks: way.
  Walks: meet.
  Walks: shrink.
  What two shrinkings come to: a blossom. What holds of the forest in memory between its steps.
  What holds of the forest in memory between its steps; a blossom keeps it.
  Walks: shrink.
  Walks: Join.
-/
import Derived.Test.YtohpjggnhnjgpaaProg
import Derived.Test.YtohpjggnhnjgpaaPart1
import Derived.Test.YtohpjggnhnjgpaaPart3
import Derived.Deep.LoopGhost
set_option linter.unusedVariables false
set_option linter.unusedSimpArgs false

namespace Gar
open Go Go.RowKit Go.Proofs
set_option maxRecDepth 100000
set_option maxHeartbeats 400000

def FirstPost (w : World) (own : Nat → Prop) (K : Nat → Nat) (n : Nat) (mate : Nat → Option Nat) (S : FS) (rep : Nat → Nat) (v : Nat) (e : Ending) (w' : World) : Prop :=
  e = .returned (iv (rep v)) ∧ ∃ up', FM w' own K n mate { S with up := up' } ∧ UF n up' rep ∧ Fr own w w'

theorem FRaw.put (w : World) : True := trivial

def LoopRel (w : World) (own : Nat → Prop) (K : Nat → Nat) (n : Nat) (mate : Nat → Option Nat) (S : FS) (rep : Nat → Nat) (v : Nat) (k : Nat) (x : Value) (wr : World) : Prop :=
  ∃ v' up', x = iv v' ∧ v' < n ∧ rep v' = rep v ∧ Rep n up' k v' (rep v') ∧ UF n up' rep ∧ FM wr own K n mate { S with up := up' } ∧ Fr own w wr

theorem first_spec {w : World} {own : Nat → Prop} {K : Nat → Nat} {n : Nat} {mate : Nat → Option Nat} {S : FS} {rep : Nat → Nat} (hn : n ≤ 1000000)
    (hF : FM w own K n mate S) (hU : UF n S.up rep) {v : Nat} (hv : v < n) :
    Calls Try.prog 81 #[.pointer (some ⟨K 13, 0, none⟩), iv v] w (FirstPost w own K n mate S rep v) := by
  obtain ⟨k0, hk0⟩ := hU v hv
  go_enter Try.func81, Try.ntmps81
  go_wp2_with fail
  go_loopg [1] k0 (LoopRel w own K n mate S rep v)
  case atStart => exact ⟨v, S.up, rfl, hv, rfl, hk0, hU, hF, Fr.refl _ _⟩
  case round =>
    obtain ⟨v', up', rfl, hv', hr, hk, hU', hF', hfr⟩ := hrel
    obtain ⟨Am, cm, R, lk, Aw, nw, cw, f, ab⟩ := hF'
    have h1 := f.hd 10 (by omega)
    have h2 := f.get 10 (by omega) (by omega) hv'
    rw [ab.up v' hv'] at h2
    simp only at h2
    simp only [iv] at h2 ⊢
    have hF'' : FM wr own K n mate { S with up := up' } := ⟨Am, cm, R, lk, Aw, nw, cw, f, ab⟩
    have HF := Lib.hid hF''
    have HAB := Lib.hid ab
    have HFR := Lib.hid f
    clear hF hF'' hk0
    by_cases hne : up' v' = v'
    · have e : ((v' : Int) != (v' : Int)) = false := by simp
      rw [hne] at h2
      clear ab f
      go_wp2_with fail
      go_ret
      exact ⟨by rw [← hr, hU'.self hv' hne]; rfl, up', HF.out, hU', hfr⟩
    · obtain ⟨hu, hru⟩ := hU'.up_lt hv'
      obtain ⟨huu, hruu⟩ := hU'.up_lt hu
      have h3 := f.get 10 (by omega) (by omega) hu
      rw [ab.up _ hu] at h3
      simp only [iv] at h3
      have e : ((up' v' : Int) != (v' : Int)) = true := by simp; omega
      have hz := f.fz 10 (by omega) v'
      have d1 := f.ne 13 10 (by omega) (by omega) (by omega)
      have d2 := f.ne 10 13 (by omega) (by omega) (by omega)
      have HH := Lib.hid hU'
      have HK := Lib.hid hk
      clear hU' hU hk f ab
      go_wp2_with fail
      go_still_tail 19, (by kernel_rfl)
      go_wp2_with fail
      obtain ⟨hU2, hk2⟩ := HH.out.halve hv' hne
      obtain ⟨k', hlt, hk'⟩ := hk2 _ HK.out
      go_roundg k'
      case measure => exact hlt
      case rel => exact ⟨up' (up' v'), _, rfl, huu, by rw [hruu, hru, hr], by rw [hruu, hru]; exact hk', hU2, ((HF.out.setUp v' (up' (up' v'))).drew), (hfr.setCell _ _ fun _ => HF.out.owns 10 (by omega)).drew⟩

def BasePost (w : World) (own : Nat → Prop) (K : Nat → Nat) (n : Nat) (mate : Nat → Option Nat) (S : FS) (rep : Nat → Nat) (v : Nat) (e : Ending) (w' : World) : Prop :=
  e = .returned (iv (S.base (rep v))) ∧ ∃ up', FM w' own K n mate { S with up := up' } ∧ UF n up' rep ∧ Fr own w w'

theorem base_spec {w : World} {own : Nat → Prop} {K : Nat → Nat} {n : Nat} {mate : Nat → Option Nat} {S : FS} {rep : Nat → Nat} (hn : n ≤ 1000000)
    (hF : FM w own K n mate S) (hU : UF n S.up rep) {v : Nat} (hv : v < n) :
    Calls Try.prog 67 #[.pointer (some ⟨K 13, 0, none⟩), iv v] w (BasePost w own K n mate S rep v) := by
  have hrv := (hU.lt hv).1
  have h1 := hF.hd 11 (by omega)
  go_enter Try.func67, Try.ntmps67
  go_wp2_with fail
  go_region_with (go_at_call 81; refine (first_spec hn (hF.drew) hU hv).mono ?_; rintro e w' ⟨rfl, up', hF', hU', hfr⟩; have g1 := hF'.hd 11 (by omega); have g2 := hF'.gBase hrv; simp only [iv])
  all_goals
    go_wp2_with fail
    go_ret
    exact ⟨rfl, up', hF', hU', (Fr.refl _ _).drew.step hfr⟩
end Gar

namespace Gar
open Go Go.RowKit Go.Proofs
set_option maxRecDepth 100000
set_option maxHeartbeats 400000
variable {w : World} {own : Nat → Prop} {K : Nat → Nat} {n : Nat} {mate : Nat → Option Nat} {S : FS} {rep : Nat → Nat}

def FS.isGone (S : FS) (v : Nat) : Bool := match S.root v with | none => false | some r => S.gone r

theorem gone_spec (hF : FM w own K n mate S) {v : Nat} (hv : v < n) (hr : ∀ r, S.root v = some r → r < n) :
    Calls Try.prog 82 #[.pointer (some ⟨K 13, 0, none⟩), iv v] w (fun e w' => e = .returned (.bool (S.isGone v)) ∧ ∃ m, w' = w.drewN m) := by
  have h1 := hF.hd 7 (by omega)
  have h2 := hF.hd 9 (by omega)
  have h3 := hF.gRoot hv
  unfold FS.isGone
  cases h : S.root v with
  | none =>
    rw [h] at h3; simp only [ev] at h3
    have e : ((-1 : Int) != -1) = false := by decide
    simp only [iv]
    go_enter Try.func82, Try.ntmps82
    go_wp2_with fail
    go_quiet (fail)
    go_wp2_with fail
    go_ret
    exact ⟨rfl, nq, rfl⟩
  | some r =>
    have hrn := hr r h
    rw [h] at h3; simp only [ev] at h3
    have h4 := hF.gGone hrn
    have e : (((r : Nat) : Int) != -1) = true := by simp
    simp only [iv]
    clear h
    go_enter Try.func82, Try.ntmps82
    go_wp2_with fail
    go_quiet (fail)
    go_wp2_with fail
    go_ret
    exact ⟨rfl, nq, rfl⟩

/-- The base above a base. -/
def FS.above (S : FS) (mate : Nat → Option Nat) (rep : Nat → Nat) (b : Nat) : Option Nat := match mate b with | none => none | some m => some (S.base (rep (S.pred m)))

def AbovePost (w : World) (own : Nat → Prop) (K : Nat → Nat) (n : Nat) (mate : Nat → Option Nat) (S : FS) (rep : Nat → Nat) (b : Nat) (e : Ending) (w' : World) : Prop :=
  e = .returned (ev (S.above mate rep b)) ∧ ∃ up', FM w' own K n mate { S with up := up' } ∧ UF n up' rep ∧ Fr own w w'

theorem above_spec (hn : n ≤ 1000000) (hF : FM w own K n mate S) (hU : UF n S.up rep) {b : Nat} (hb : b < n) (hm : ∀ m, mate b = some m → m < n ∧ S.pred m < n) :
    Calls Try.prog 91 #[.pointer (some ⟨K 13, 0, none⟩), iv b] w (AbovePost w own K n mate S rep b) := by
  obtain ⟨bm, cm, h1, h2, h3⟩ := hF.gMate hb
  have h4 := h3 b hb
  cases h : mate b with
  | none =>
    rw [h] at h4; simp only [ev] at h4
    simp only [iv]
    clear h3
    go_enter Try.func91, Try.ntmps91
    go_wp2_with fail
    go_ret
    exact ⟨by simp only [FS.above, h]; rfl, S.up, hF, hU, Fr.refl _ _⟩
  | some m =>
    obtain ⟨hmn, hp⟩ := hm m h
    rw [h] at h4; simp only [ev] at h4
    have e : (((m : Nat) : Int) == -1) = false := by simp
    have h5 := hF.hd 6 (by omega)
    have h6 := hF.gPred hmn
    have H := Lib.hid h
    simp only [iv]
    clear h3 h hm
    go_enter Try.func91, Try.ntmps91
    go_wp2_with fail
    go_region_with (go_at_call 67; refine (base_spec hn (hF.drew) hU hp).mono ?_; rintro e w' ⟨rfl, up', hF', hU', hfr⟩; simp only [iv])
    all_goals
     go_wp2_with fail
     go_ret
     exact ⟨by simp only [FS.above, H.out]; rfl, up', hF', hU', (Fr.refl _ _).drew.step hfr⟩

def UnitePost (w : World) (own : Nat → Prop) (K : Nat → Nat) (n : Nat) (mate : Nat → Option Nat) (S : FS) (rep : Nat → Nat) (v u b : Nat) (e : Ending) (w' : World) : Prop :=
  e = .returned (.tuple #[]) ∧ ∃ up', FM w' own K n mate { S with up := up', base := fun x => if x = rep u then b else S.base x } ∧ UF n up' (fun x => if rep x = rep v then rep u else rep x) ∧ Fr own w w'

theorem unite_spec (hn : n ≤ 1000000) (hF : FM w own K n mate S) (hU : UF n S.up rep) {v u b : Nat} (hv : v < n) (hu : u < n) :
    Calls Try.prog 92 #[.pointer (some ⟨K 13, 0, none⟩), iv v, iv u, iv b] w (UnitePost w own K n mate S rep v u b) := by
  have hrv := hU.lt hv
  have hru := hU.lt hu
  go_enter Try.func92, Try.ntmps92
  go_wp2_with fail
  refine (first_spec hn hF hU hv).mono ?_
  rintro e w1 ⟨rfl, up1, hF1, hU1, hfr1⟩
  go_wp2_with fail
  refine (first_spec hn hF1 hU1 hu).mono ?_
  rintro e w2 ⟨rfl, up2, hF2, hU2, hfr2⟩
  have hx := hU2.lt hv
  have hy := hU2.lt hu
  have h1 := hF2.hd 10 (by omega)
  have h2 := hF2.hd 11 (by omega)
  have h3 := hF2.gUp hx.1
  have h4 := hF2.gBase hy.1
  have z1 := hF2.fz 10 (by omega) (rep v)
  have z2 := hF2.fz 11 (by omega) (rep u)
  have d1 := hF2.ne 10 13 (by omega) (by omega) (by omega)
  have d2 := hF2.ne 13 10 (by omega) (by omega) (by omega)
  have d3 := hF2.ne 11 10 (by omega) (by omega) (by omega)
  have d4 := hF2.ne 10 11 (by omega) (by omega) (by omega)
  have X := Lib.hid hx
  have Y := Lib.hid hy
  have l1 := hrv.1
  have l2 := hru.1
  clear hx hy hrv hru
  simp only [iv]
  go_wp2_with fail
  refine bodyPost_end (results_none rfl _ _ _) rfl ?_
  refine ⟨rfl, _, (hF2.setUp (rep v) (rep u)).setBase (rep u) b, hU2.unite l1 l2 X.out.2 Y.out.2, ?_⟩
  exact ((hfr1.step hfr2).setCell _ _ fun _ => hF2.owns 10 (by omega)).setCell _ _ fun _ => hF2.owns 11 (by omega)
end Gar

namespace Gar
open Go Go.RowKit Go.Proofs
set_option maxRecDepth 100000
set_option maxHeartbeats 400000
variable {w : World} {own : Nat → Prop} {K : Nat → Nat} {n : Nat} {mate : Nat → Option Nat} {S : FS} {rep : Nat → Nat}

theorem info_int : (Try.prog.info? 3).map (fun i => (i.zero, i.size, i.bytes)) = some (some (.int .i64 0), 1, 8) := by kernel_rfl

/-- A vertex becomes outer. -/
def FS.raise (S : FS) (v l : Nat) : FS := { S with label := fun u => if u = v then (if S.label v = 0 then l else S.label v) else S.label u, outer := fun u => if u = v then true else S.outer u, wait := S.wait ++ [v] }

def RaisePost (w : World) (own : Nat → Prop) (K : Nat → Nat) (n : Nat) (mate : Nat → Option Nat) (S : FS) (v l : Nat) (e : Ending) (w' : World) : Prop :=
  e = .returned (.tuple #[]) ∧ ∃ own', FM w' own' K n mate (S.raise v l) ∧ Stp own w own' w'

/-- One that waits more. -/
theorem FM.push {w2 : World} (h : FM w own K n mate S) {A2 : Option Addr} {n2 c2 : Nat} {v : Nat} {Aw : Option Addr}
    (hw : Ow w2 1 A2 n2 c2 ((S.wait ++ [v]).map iv)) (hfr : Fr (InA Aw) w w2) (hA : ∀ b, InA A2 b → InA Aw b ∨ w.heap.size ≤ b) (hhd : ∃ nw cw, w.cell? ⟨K 13, 14, none⟩ = some (.slice Aw nw cw)) :
    ∃ own', FM (w2.setCell ⟨K 13, 14, none⟩ (.slice A2 n2 c2)) own' K n mate { S with wait := S.wait ++ [v] } ∧ Stp own w own' (w2.setCell ⟨K 13, 14, none⟩ (.slice A2 n2 c2)) := by
  obtain ⟨Am, cm, R, lk, Aw', nw', cw', f, ab⟩ := h
  obtain ⟨nw, cw, hc⟩ := hhd
  rw [f.hd14] at hc
  injection hc with hc; injection hc with e1 e2 e3
  subst e1
  refine ⟨_, ⟨Am, cm, R, lk, A2, n2, c2, f.setWt (S := No) hfr hw hA, ab.1, ab.2, ab.3, ab.4, ab.5, ab.6, ab.7, ab.8, ab.9, ab.10, ab.11, ab.12⟩, ?_, ?_⟩
  · exact (hfr.mono fun b _ hb => f.waitOwn b hb).setCell _ _ fun _ => f.owns 13 (by omega) (by omega)
  · rintro b (hb | hb)
    · exact .inl hb
    · rcases hA b hb with h | h
      · exact .inl (f.waitOwn b h)
      · exact .inr h

theorem FM.hWait (h : FM w own K n mate S) : ∃ Aw nw cw, w.cell? ⟨K 13, 14, none⟩ = some (.slice Aw nw cw) ∧ Ow w 1 Aw nw cw (S.wait.map iv) ∧ (∀ b, InA Aw b → own b) ∧ ∀ b i, InA Aw b → 2 ≤ i ∧ i ≤ 13 → b ≠ K i := by
  obtain ⟨Am, cm, R, lk, Aw, nw, cw, f, ab⟩ := h
  exact ⟨Aw, nw, cw, f.hd14, f.wait, f.waitOwn, fun b i hb hi => f.waitDis b i hb hi.1 hi.2⟩

theorem FM.hdrAfter {w3 : World} (h : FM w own K n mate S) {Aw : Option Addr} {nw cw : Nat} (hhd : w.cell? ⟨K 13, 14, none⟩ = some (.slice Aw nw cw)) (k : Fr (InA Aw) w w3) :
    w3.cell? ⟨K 13, 14, none⟩ = some (.slice Aw nw cw) ∧ w3.frozen? ⟨K 13, 14, none⟩ = false := by
  obtain ⟨Am, cm, R, lk, Aw', nw', cw', f, ab⟩ := h
  have hc := hhd
  rw [f.hd14] at hc
  injection hc with hc; injection hc with e1 e2 e3
  subst e1
  obtain ⟨c, h1, h2⟩ := f.hdr
  have h3 := h1.fr k fun hb => f.waitDis _ 13 hb (by omega) (by omega) rfl
  exact ⟨k.cell hhd fun hb => f.waitDis _ 13 hb (by omega) (by omega) rfl, h3.frozen 14⟩

theorem raise_spec (hF : FM w own K n mate S) (hwt : S.wait.length ≤ 1000000) {v l : Nat} {x : Int} (hv : v < n) :
    Calls Try.prog 80 #[.pointer (some ⟨K 13, 0, none⟩), iv v, .int .i64 x, .int .i64 (l : Int)] w (RaisePost w own K n mate S v l) := by
  have h1 := hF.hd 3 (by omega)
  have h2 := hF.hd 4 (by omega)
  have h3 := hF.gOuter hv
  obtain ⟨x4, h4⟩ := hF.gEven hv
  have z1 := hF.fz 3 (by omega) v
  have z2 := hF.fz 4 (by omega) v
  have d1 := hF.ne 3 4 (by omega) (by omega) (by omega)
  have d2 := hF.ne 4 3 (by omega) (by omega) (by omega)
  have hF1 := ((hF.setOuter v true).setEven v x).drew
  have s1 : Stp own w own ((w.setCell ⟨K 3, v, none⟩ (.bool true)).setCell ⟨K 4, v, none⟩ (.int .i64 x)).drew := (((Stp.refl own w).set _ _ (hF.owns 3 (by omega))).set _ _ (hF.owns 4 (by omega))).drewN 1
  simp only [iv]
  go_enter Try.func80, Try.ntmps80
  go_wp2_with fail
  go_region
  generalize ((w.setCell ⟨K 3, v, none⟩ (.bool true)).setCell ⟨K 4, v, none⟩ (.int .i64 x)).drew = w1 at hF1 s1 ⊢
  clear h1 h2 h3 h4 z1 z2 d1 d2 hF
  have h1 := hF1.hd 2 (by omega)
  have h2 := hF1.gLabel hv
  have z1 := hF1.fz 2 (by omega) v
  simp only at h2
  obtain ⟨i0, hi, hz0, hz1, hz2⟩ := info_parts info_int
  by_cases h0 : S.label v = 0
  · have hF2 := hF1.setLabel v l
    have s2 := s1.set ⟨K 2, v, none⟩ (iv l) (hF1.owns 2 (by omega))
    simp only [iv] at hF2 s2
    have e0 : (((S.label v : Nat) : Int) == 0) = true := by simp; omega
    have H0 := Lib.hid h0
    clear h0
    go_upto_region 3 with (fail)
    generalize w1.setCell ⟨K 2, v, none⟩ (.int .i64 (l : Int)) = w2 at hF2 s2 ⊢
    clear h1 h2 z1 hF1 s1
    obtain ⟨Aw, nw, cw, hhd, hO, hOwn, hDis⟩ := hF2.hWait
    have hlen : nw = S.wait.length := by have := hO.len; simpa using this.symm
    have HL := Lib.hid hlen
    have hnw : nw ≤ 1000000 := by omega
    have hF3 := hF2.alloc (.cells #[.int .i64 (v : Int)] 3)
    have hhd3 : (w2.alloc (.cells #[.int .i64 (v : Int)] 3)).cell? ⟨K 13, 14, none⟩ = some (.slice Aw nw cw) := ((Fr.refl No _).alloc _).cell hhd id
    have HD := Lib.hid hhd3
    clear hlen hDis hOwn hhd3
    go_wp2_with (at_builtin; refine wpList_append_ow rfl (.tmp 40) (.tmp 42) 22 rfl 3 i0 (.int .i64 0) 1 8 Try.underlying22 hi hz0 hz1 hz2 rfl (by decide) rfl (hO.fr ((Fr.refl No _).alloc _) fun _ _ => id) rfl (Rd.one (World.cell?_alloc_new _ _ _ 0)) (by simp [Value.oneCell']) (by omega) (by simp only [maxLen]; omega) ?_; intro A2 c2 w3 hO3 hfr3 hA3; obtain ⟨hq1, hq2⟩ := hF3.hdrAfter HD.out hfr3)
    refine bodyPost_end (results_none rfl _ _ _) rfl ?_
    obtain ⟨own', q1, q2⟩ := FM.push (v := v) hF3 (by simpa [iv] using hO3) hfr3 hA3 ⟨nw, cw, HD.out⟩
    refine ⟨rfl, own', ?_, (s2.trans (Stp.of_fr ((Fr.refl No _).alloc _))).trans q2⟩
    have e : (fun u => if u = v then l else S.label u) = (fun u => if u = v then (if S.label v = 0 then l else S.label v) else S.label u) := by rw [if_pos H0.out]
    unfold FS.raise; rw [← e]; exact q1
  · have e0 : (((S.label v : Nat) : Int) == 0) = false := by simp; omega
    have H0 := Lib.hid h0
    clear h0
    go_upto_region 3 with (fail)
    clear h1 h2 z1
    obtain ⟨Aw, nw, cw, hhd, hO, hOwn, hDis⟩ := hF1.hWait
    have hlen : nw = S.wait.length := by have := hO.len; simpa using this.symm
    have HL := Lib.hid hlen
    have hnw : nw ≤ 1000000 := by omega
    have hF3 := hF1.alloc (.cells #[.int .i64 (v : Int)] 3)
    have hhd3 : (w1.alloc (.cells #[.int .i64 (v : Int)] 3)).cell? ⟨K 13, 14, none⟩ = some (.slice Aw nw cw) := ((Fr.refl No _).alloc _).cell hhd id
    have HD := Lib.hid hhd3
    clear hlen hDis hOwn hhd3
    go_wp2_with (at_builtin; refine wpList_append_ow rfl (.tmp 40) (.tmp 42) 22 rfl 3 i0 (.int .i64 0) 1 8 Try.underlying22 hi hz0 hz1 hz2 rfl (by decide) rfl (hO.fr ((Fr.refl No _).alloc _) fun _ _ => id) rfl (Rd.one (World.cell?_alloc_new _ _ _ 0)) (by simp [Value.oneCell']) (by omega) (by simp only [maxLen]; omega) ?_; intro A2 c2 w3 hO3 hfr3 hA3; obtain ⟨hq1, hq2⟩ := hF3.hdrAfter HD.out hfr3)
    refine bodyPost_end (results_none rfl _ _ _) rfl ?_
    obtain ⟨own', q1, q2⟩ := FM.push (v := v) hF3 (by simpa [iv] using hO3) hfr3 hA3 ⟨nw, cw, HD.out⟩
    refine ⟨rfl, own', ?_, (s1.trans (Stp.of_fr ((Fr.refl No _).alloc _))).trans q2⟩
    have e : S.label = (fun u => if u = v then (if S.label v = 0 then l else S.label v) else S.label u) := by
      rw [if_neg H0.out]; funext u; by_cases e : u = v <;> simp [e]
    unfold FS.raise; rw [← e]; exact q1
end Gar

namespace Gar
open Go Go.RowKit Go.Proofs
set_option maxRecDepth 100000
set_option maxHeartbeats 800000
variable {w : World} {own : Nat → Prop} {K : Nat → Nat} {n : Nat} {mate : Nat → Option Nat} {S : FS} {rep : Nat → Nat}

/-- What an edge is for the forest. -/
def FS.look (S : FS) (mate : Nat → Option Nat) (rep : Nat → Nat) (v u : Nat) : Nat :=
  if mate v = some u ∨ S.isGone v = true ∨ S.isGone u = true then 0 else if S.label u = 0 then 1 else if S.outer u = true ∧ S.base (rep v) ≠ S.base (rep u) then 2 else 0

def LookPost (w : World) (own : Nat → Prop) (K : Nat → Nat) (n : Nat) (mate : Nat → Option Nat) (S : FS) (rep : Nat → Nat) (v u : Nat) (e : Ending) (w' : World) : Prop :=
  e = .returned (.int .i64 (S.look mate rep v u : Int)) ∧ ∃ up', FM w' own K n mate { S with up := up' } ∧ UF n up' rep ∧ Fr own w w'

theorem look_spec (hn : n ≤ 1000000) (hF : FM w own K n mate S) (hU : UF n S.up rep) {v u : Nat} (hv : v < n) (hu : u < n) (hr : ∀ x r, x < n → S.root x = some r → r < n) :
    Calls Try.prog 69 #[.pointer (some ⟨K 13, 0, none⟩), iv v, iv u] w (LookPost w own K n mate S rep v u) := by
  obtain ⟨x, hx⟩ := hF.hLooks
  have z := hF.hz 15
  have hF1 := hF.setLooks (wrap64 (x + 1))
  have s1 : Fr own w (w.setCell ⟨K 13, 15, none⟩ (.int .i64 (wrap64 (x + 1)))) := (Fr.refl _ _).setCell _ _ fun _ => hF.owns 13 (by omega)
  simp only [iv]
  go_enter Try.func69, Try.ntmps69
  go_upto_region 2 with (fail)
  generalize w.setCell ⟨K 13, 15, none⟩ (.int .i64 (wrap64 (x + 1))) = w1 at hF1 s1 ⊢
  clear hx z hF
  obtain ⟨bm, cm, h1, _, h3⟩ := hF1.gMate hv
  have h2 := h3 v hv
  clear h3
  obtain ⟨m, hm, hmu⟩ : ∃ m : Int, ev (mate v) = .int .i64 m ∧ (m = (u : Int) ↔ mate v = some u) := by
    cases mate v with
    | none => exact ⟨-1, rfl, by simp⟩
    | some m => exact ⟨m, rfl, by simp; omega⟩
  rw [hm] at h2
  clear hm
  have HU := Lib.hid hU
  have HM := Lib.hid hmu
  have HR := Lib.hid hr
  clear hU hmu hr
  by_cases c1 : (u : Int) = m
  · have e : ((u : Int) == m) = true := by simp [c1]
    have HC : Hid (mate v = some u) := HM.out.1 c1.symm
    clear c1
    go_wp2_with fail
    go_ret
    exact ⟨by simp only [FS.look, HC.out, true_or, if_true]; rfl, S.up, hF1, HU.out, s1⟩
  have e1 : ((u : Int) == m) = false := by simp [c1]
  have HC : Hid (mate v ≠ some u) := fun e => c1 (HM.out.2 e).symm
  clear c1
  by_cases c2 : S.isGone v = true
  · have HG := Lib.hid c2
    clear c2
    go_wp2_with fail
    refine (gone_spec hF1 hv (fun r h => HR.out v r hv h)).mono ?_
    rw [HG.out]
    rintro e w2 ⟨rfl, k, rfl⟩
    go_wp2_with fail
    go_ret
    exact ⟨by simp only [FS.look, HG.out, true_or, or_true, if_true]; rfl, S.up, hF1.drewN _, HU.out, s1.drewN _⟩
  have c2' : S.isGone v = false := by simpa using c2
  have HG := Lib.hid c2'
  clear c2'
  clear c2
  go_wp2_with fail
  refine (gone_spec hF1 hv (fun r h => HR.out v r hv h)).mono ?_
  rw [HG.out]
  rintro e w2 ⟨rfl, k, rfl⟩
  go_wp2_with fail
  refine (gone_spec (hF1.drewN _) hu (fun r h => HR.out u r hu h)).mono ?_
  by_cases c3 : S.isGone u = true
  · have HG2 := Lib.hid c3
    clear c3
    rw [HG2.out]
    rintro e w2 ⟨rfl, k2, rfl⟩
    go_wp2_with fail
    go_ret
    exact ⟨by simp only [FS.look, HG2.out, or_true, if_true]; rfl, S.up, (hF1.drewN _), HU.out, (s1.drewN _)⟩
  have c3' : S.isGone u = false := by simpa using c3
  have HG2 := Lib.hid c3'
  clear c3'
  clear c3
  rw [HG2.out]
  rintro e w2 ⟨rfl, k2, rfl⟩
  have h5 := hF1.hd 2 (by omega)
  have h6 := hF1.gLabel hu
  have HL : Hid (¬ (mate v = some u ∨ S.isGone v = true ∨ S.isGone u = true)) := by
    rintro (h | h | h)
    · exact HC.out h
    · rw [HG.out] at h; cases h
    · rw [HG2.out] at h; cases h
  by_cases c4 : S.label u = 0
  · have e : (((S.label u : Nat) : Int) == 0) = true := by simp; omega
    have H4 := Lib.hid c4
    clear c4
    go_wp2_with fail
    go_ret
    exact ⟨by simp only [FS.look, if_neg HL.out, if_pos H4.out]; rfl, S.up, (hF1.drewN _), HU.out, (s1.drewN _)⟩
  have e4 : (((S.label u : Nat) : Int) == 0) = false := by simp; omega
  have H4 := Lib.hid c4
  clear c4
  have h7 := hF1.hd 3 (by omega)
  have h8 := hF1.gOuter hu
  by_cases c5 : S.outer u = true
  · rw [c5] at h8
    have H5 := Lib.hid c5
    clear c5
    go_wp2_with fail
    refine (base_spec hn (hF1.drewN _) HU.out hv).mono ?_
    rintro e w2 ⟨rfl, up2, hF2, hU2, hfr2⟩
    simp only [iv]
    clear h1 h2 h5 h6 h7 h8
    go_wp2_with fail
    refine (base_spec hn hF2 hU2 hu).mono ?_
    rintro e w3 ⟨rfl, up3, hF3, hU3, hfr3⟩
    simp only [iv]
    have fr := (s1.drewN (k + k2)).step (hfr2.step hfr3)
    by_cases c6 : S.base (rep v) = S.base (rep u)
    · have e6 : (((S.base (rep v) : Nat) : Int) != ((S.base (rep u) : Nat) : Int)) = false := by simp [c6]
      have H6 := Lib.hid c6
      clear c6
      go_wp2_with fail
      go_ret
      exact ⟨by simp only [FS.look, if_neg HL.out, if_neg H4.out, H5.out, H6.out]; simp, up3, hF3, hU3, fr⟩
    · have e6 : (((S.base (rep v) : Nat) : Int) != ((S.base (rep u) : Nat) : Int)) = true := by simp; omega
      have H6 := Lib.hid c6
      clear c6
      go_wp2_with fail
      go_ret
      exact ⟨by simp only [FS.look, if_neg HL.out, if_neg H4.out, H5.out]; rw [if_pos ⟨trivial, H6.out⟩]; rfl, up3, hF3, hU3, fr⟩
  · have c5' : S.outer u = false := by simpa using c5
    rw [c5'] at h8
    have H5 := Lib.hid c5'
    clear c5 c5'
    go_wp2_with fail
    go_ret
    exact ⟨by simp only [FS.look, if_neg HL.out, if_neg H4.out, H5.out]; simp, S.up, (hF1.drewN _), HU.out, (s1.drewN _)⟩
end Gar

namespace Gar
open Go Go.RowKit Go.Proofs
set_option maxRecDepth 100000
set_option maxHeartbeats 800000
variable {w : World}

def TurnedPost (w : World) (A : Option Addr) (n c : Nat) (xs : List Nat) (e : Ending) (w' : World) : Prop :=
  e = .returned (.slice A n c) ∧ Ow w' 1 A n c (xs.reverse.map iv) ∧ Fr (InA A) w w'

def TurnRel (w : World) (A : Option Addr) (n c : Nat) (xs : List Nat) (g : Nat) (i k : Value) (wr : World) : Prop :=
  ∃ (p : Nat) (ys : List Nat), i = .int .i64 (p : Int) ∧ k = .int .i64 ((n : Int) - 1 - p) ∧ g = n - p ∧ p ≤ n ∧ 2 * p ≤ n + 1 ∧ Ow wr 1 A n c (ys.map iv) ∧ Fr (InA A) w wr ∧ ys.length = n ∧
    ∀ j, j < n → ys[j]? = if j < p ∨ n - p ≤ j then xs[n - 1 - j]? else xs[j]?

theorem turned_end {xs ys : List Nat} {n p : Nat} (hx : xs.length = n) (hy : ys.length = n) (hp : n ≤ 2 * p + 1) (h : ∀ j, j < n → ys[j]? = if j < p ∨ n - p ≤ j then xs[n - 1 - j]? else xs[j]?) : ys = xs.reverse := by
  apply List.ext_getElem? 
  intro j
  rcases Nat.lt_or_ge j n with hj | hj
  · rw [h j hj, List.getElem?_reverse (by omega), hx]
    by_cases e : j < p ∨ n - p ≤ j
    · rw [if_pos e]
    · rw [if_neg e]; have : j = n - 1 - j := by omega
      rw [← this]
  · rw [List.getElem?_eq_none (by omega), List.getElem?_eq_none (by simp; omega)]

theorem turned_step {xs ys : List Nat} {n p : Nat} (hx : xs.length = n) (hy : ys.length = n) (hp : p < n - 1 - p) (l1 : p < ys.length) (l2 : n - 1 - p < ys.length) (h : ∀ j, j < n → ys[j]? = if j < p ∨ n - p ≤ j then xs[n - 1 - j]? else xs[j]?) :
    ∀ j, j < n → ((ys.set p ys[n - 1 - p]).set (n - 1 - p) ys[p])[j]? = if j < p + 1 ∨ n - (p + 1) ≤ j then xs[n - 1 - j]? else xs[j]? := by
  intro j hj
  have h1 := h p (by omega)
  have h2 := h (n - 1 - p) (by omega)
  rw [if_neg (by omega), List.getElem?_eq_getElem l1] at h1
  rw [if_neg (by omega), List.getElem?_eq_getElem l2] at h2
  rw [List.getElem?_set, List.getElem?_set]
  by_cases e1 : n - 1 - p = j
  · subst e1
    rw [if_pos rfl, if_pos (by simp; omega), if_pos (by omega), h1]
    congr 1; omega
  · rw [if_neg e1]
    by_cases e2 : p = j
    · subst e2
      rw [if_pos rfl, if_pos (by omega), if_pos (by omega), h2]
    · rw [if_neg e2, h j hj]
      by_cases e3 : j < p ∨ n - p ≤ j
      · rw [if_pos e3, if_pos (by omega)]
      · rw [if_neg e3, if_neg (by omega)]

theorem turned_spec {A : Option Addr} {n c : Nat} {xs : List Nat} (hO : Ow w 1 A n c (xs.map iv)) (hn : n ≤ 1000000) :
    Calls Try.prog 83 #[.slice A n c] w (TurnedPost w A n c xs) := by
  have hxl : xs.length = n := by have := hO.len; simp at this; omega
  go_enter Try.func83, Try.ntmps83
  go_wp2_with fail
  go_loopg [3, 4] n (TurnRel w A n c xs)
  case atStart => exact ⟨0, xs, rfl, by simp, by omega, by omega, by omega, hO, Fr.refl _ _, hxl, fun j hj => by rw [if_neg (by omega)]⟩
  case round =>
    obtain ⟨p, ys, rfl, rfl, hg, hp, hp2, hO1, hfr, hyl, hj⟩ := hrel
    have HG := Lib.hid hg
    have HX := Lib.hid hxl
    have HY := Lib.hid hyl
    have HJ := Lib.hid hj
    clear hg hxl hyl hj hO
    by_cases hlt : (p : Int) < (n : Int) - 1 - p
    · obtain ⟨b, o, rfl⟩ := hO1.some (by omega)
      have l1 : p < ys.length := by rw [HY.out]; omega
      have l2 : n - 1 - p < ys.length := by rw [HY.out]; omega
      have q1 := hO1.cellAt (i := p) (u := iv ys[p]) (by simp [l1])
      have q2 := hO1.cellAt (i := n - 1 - p) (u := iv ys[n - 1 - p]) (by simp [l2])
      obtain ⟨c1, f1⟩ := q1
      obtain ⟨c2, f2⟩ := q2
      generalize h1 : ys[p] = y1 at c1
      generalize h2 : ys[n - 1 - p] = y2 at c2
      simp only [iv] at c1 c2
      have HO := (((hO1.set p (iv y2)).set (n - 1 - p) (iv y1)).fr (S := No) ((Fr.refl _ _).drew) fun _ _ => id)
      have HF : Fr (InA (some ⟨b, o, none⟩)) w ((wr.setCell ⟨b, o + p, none⟩ (iv y2)).setCell ⟨b, o + (n - 1 - p), none⟩ (iv y1)).drew := ((hfr.setCell ⟨b, o + p, none⟩ (iv y2) fun _ => ⟨⟨b, o, none⟩, rfl, rfl⟩).setCell ⟨b, o + (n - 1 - p), none⟩ (iv y1) fun _ => ⟨⟨b, o, none⟩, rfl, rfl⟩).drew
      have H1 := Lib.hid h1
      have H2 := Lib.hid h2
      clear h1 h2 hO1 hfr
      simp only [iv] at HO HF
      have b1 : (p : Int) ≤ (n : Int) - 1 := by omega
      have ne1 : o + p ≠ o + (n - 1 - p) := by omega
      go_wp2_with fail
      go_region
      generalize ((wr.setCell ⟨b, o + p, none⟩ (.int .i64 (y2 : Int))).setCell ⟨b, o + (n - 1 - p), none⟩ (.int .i64 (y1 : Int))).drew = w2 at HO HF ⊢
      go_wp2_with fail
      go_roundg (n - (p + 1))
      case measure => rw [HG.out]; omega
      case rel =>
        refine ⟨p + 1, (ys.set p ys[n - 1 - p]).set (n - 1 - p) ys[p], rfl, by congr 1; omega, rfl, by omega, by omega, ?_, HF, by simp [HY.out], turned_step HX.out HY.out (by omega) l1 l2 HJ.out⟩
        rw [H1.out, H2.out, List.map_set, List.map_set]; exact HO
    · go_wp2_with fail
      go_ret
      refine ⟨rfl, ?_, hfr⟩
      rw [← turned_end HX.out HY.out (by omega) HJ.out]; exact hO1
end Gar

namespace Gar
open Go Go.RowKit Go.Proofs
set_option maxRecDepth 100000
set_option maxHeartbeats 1600000
variable {own : Nat → Prop} {K : Nat → Nat} {n : Nat} {mate : Nat → Option Nat} {S : FS} {rep : Nat → Nat}

def FS.st (S : FS) (rep : Nat → Nat) : St := { label := S.label, outer := S.outer, pred := S.pred, root := S.root, bridge := S.bridge, B := fun v => S.base (rep v) }

def WayPost (w : World) (l : List Nat) (e : Ending) (w' : World) : Prop :=
  ∃ A c, e = .returned (.slice A l.length c) ∧ Ow w' 1 A l.length c (l.map iv) ∧ (∀ b, InA A b → w.heap.size ≤ b) ∧ Fr No w w'

def WayRel (w : World) (mate : Nat → Option Nat) (S : FS) (rep : Nat → Nat) (top : Nat) (l : List Nat) (g : Nat) (x1 x7 : Value) (wr : World) : Prop :=
  ∃ v' pre l' A c, x1 = .int .i64 (v' : Nat) ∧ x7 = .slice A pre.length c ∧ Ow wr 1 A pre.length c (pre.map iv) ∧ (∀ b, InA A b → w.heap.size ≤ b) ∧ Fr No w wr ∧ Way mate (S.st rep) v' top l' ∧ pre ++ l' = l ∧ g = l'.length

theorem iv_one (l : List Nat) : ∀ u ∈ l.map iv, u.oneCell' = true := by
  intro u hu
  obtain ⟨x, _, rfl⟩ := List.mem_map.1 hu
  rfl

theorem way_spec (hn : n ≤ 1000000) : ∀ (N : Nat) (w : World) (v top : Nat) (l : List Nat), l.length ≤ N → l.length ≤ 1000000 → FM w own K n mate S → Way mate (S.st rep) v top l → (∀ t ∈ l, t < n) → top < n →
    Calls Try.prog 84 #[.pointer (some ⟨K 13, 0, none⟩), iv v, iv top] w (WayPost w l) := by
  intro N
  induction N with
  | zero =>
    intro w v top l hl _ _ hw
    cases hw <;> simp at hl
  | succ N ih =>
    intro w v top l hl hl2 hF hW hlt hto
    obtain ⟨i0, hi, hz0, hz1, hz2⟩ := info_parts info_int
    simp only [iv]
    have IH := Lib.hid ih
    have HLT := Lib.hid hlt
    have HW := Lib.hid hW
    clear ih hlt hW
    go_enter Try.func84, Try.ntmps84
    go_wp2_with fail
    go_loopg [1, 7] l.length (WayRel w mate S rep top l)
    case atStart => exact ⟨v, [], l, none, 0, rfl, rfl, Ow.nil_ _ _, (by rintro b ⟨_, h, _⟩; cases h), Fr.refl _ _, HW.out, rfl, rfl⟩
    case round =>
      obtain ⟨v', pre, l', A, c, rfl, rfl, hO, hA, hfr, hW', hpre, hg⟩ := hrel
      have hll : pre.length + l'.length = l.length := by rw [← hpre]; simp
      have hpl : pre.length ≤ 1000000 := by omega
      have hl'0 : 0 < l'.length := by cases hW' <;> simp
      have HP := Lib.hid hpre
      have HLL := Lib.hid hll
      have HG := Lib.hid hg
      clear hpre hll hg
      go_upto_region 6 with (at_builtin; refine wpList_append_ow rfl (.tmp 9) (.tmp 11) 22 rfl 3 i0 (.int .i64 0) 1 8 Try.underlying22 hi hz0 hz1 hz2 rfl (by decide) rfl (hO.fr ((Fr.refl No _).alloc _) fun _ _ => id) rfl (Rd.one (World.cell?_alloc_new _ _ _ 0)) (by simp [Value.oneCell']) (by omega) (by simp only [maxLen]; omega) ?_; intro A1 c1 w1 hO1 hfr1 hA1)
      have hsz : w.heap.size ≤ wr.heap.size := hfr.size
      have hA1' : ∀ b, InA A1 b → w.heap.size ≤ b := fun b hb => by
        rcases hA1 b hb with h | h
        · exact hA b h
        · simp at h; omega
      have hfr1' : Fr No w w1 := (hfr.alloc _).new hfr1 hA
      have hO1' : Ow w1 1 A1 (pre.length + 1) c1 ((pre ++ [v']).map iv) := by simpa [iv] using hO1
      have hF1 := hF.frNo hfr1'
      clear hO hA hfr hO1 hfr1 hA1 hsz
      have hv'n : v' < n := HLT.out v' (by rw [← HP.out]; cases hW' <;> simp)
      generalize hv2 : v' = v2 at hW'
      cases hW' with
      | here =>
        subst hv2
        go_wp2_with fail
        go_ret
        have e : l.length = pre.length + 1 := by rw [← HP.out]; simp
        refine ⟨A1, c1, by rw [e]; rfl, by rw [e, ← HP.out]; exact hO1', hA1', hfr1'⟩
      | @even _ _ m l2 h1 h2 h3 h4 =>
        subst hv2
        have e1 : (((v' : Nat) : Int) == ((top : Nat) : Int)) = false := by simp; omega
        have h2' : S.label v' = 1 := h2
        have hmn : m < n := HLT.out m (by rw [← HP.out]; simp)
        have q1 := hF1.hd 2 (by omega)
        have q2 := hF1.gLabel hv'n
        rw [h2'] at q2
        obtain ⟨bm, cm, q3, _, q5⟩ := hF1.gMate hv'n
        have q4 := q5 v' hv'n
        rw [h3] at q4; simp only [ev] at q4
        have q6 := hF1.hd 6 (by omega)
        have q7 := hF1.gPred hmn
        have H1 := Lib.hid h1
        have H3 := Lib.hid h3
        have H4 := Lib.hid h4
        clear h1 h2 h2' h3 h4 q5
        go_upto_region 10 with (at_builtin; refine wpList_append_ow rfl (.tmp 50) (.tmp 58) 22 rfl 3 i0 (.int .i64 0) 1 8 Try.underlying22 hi hz0 hz1 hz2 rfl (by decide) rfl (hO1'.fr ((Fr.refl No _).alloc _) fun _ _ => id) rfl (Rd.one (World.cell?_alloc_new _ _ _ 0)) (by simp [Value.oneCell']) (by omega) (by simp only [maxLen]; omega) ?_; intro A2 c2 w2 hO2 hfr2 hA2)
        have hfr2' : Fr No w w2 := (hfr1'.alloc _).new hfr2 hA1'
        have hsz1 : w.heap.size ≤ w1.heap.size := hfr1'.size
        have hA2' : ∀ b, InA A2 b → w.heap.size ≤ b := fun b hb => by
          rcases hA2 b hb with h | h
          · exact hA1' b h
          · simp at h; omega
        have hO2' : Ow w2 1 A2 (pre.length + 1 + 1) c2 ((pre ++ [v', m]).map iv) := by simpa [iv] using hO2
        clear q1 q2 q3 q4 q6 q7 hO2 hA2 hfr2 hsz1 hO1' hA1' hfr1' hF1
        have hF2 := hF.frNo hfr2'
        obtain ⟨bm2, cm2, q3, _, q5⟩ := hF2.gMate hv'n
        have q4 := q5 v' hv'n
        rw [H3.out] at q4; simp only [ev] at q4
        have q6 := hF2.hd 6 (by omega)
        have q7 := hF2.gPred hmn
        clear q5
        go_wp2_with fail
        go_quiet (fail)
        go_wp2_with fail
        go_roundg l2.length
        case measure => rw [HG.out]; simp only [List.length_cons]; omega
        case rel => exact ⟨S.pred m, pre ++ [v', m], l2, A2, c2, rfl, by simp, by simpa using hO2'.fr ((Fr.refl No _).drewN nq) (fun _ _ => id), hA2', hfr2'.drewN nq, H4.out, by rw [← HP.out]; simp, rfl⟩
      | @odd _ _ x l0 l1 h1 h2 h3 h4 h5 h6 =>
        subst hv2
        have e1 : (((v' : Nat) : Int) == ((top : Nat) : Int)) = false := by simp; omega
        have h2' : S.label v' ≠ 1 := h2
        have e2 : (((S.label v' : Nat) : Int) == 1) = false := by simp; omega
        have hxn : x < n := HLT.out x (by
          rw [← HP.out]
          have : x ∈ l0 := h5.last
          simp [this])
        have q1 := hF1.hd 2 (by omega)
        have q2 := hF1.gLabel hv'n
        have q3 := hF1.hd 8 (by omega)
        obtain ⟨q4, q5⟩ := hF1.gBridge hv'n
        have H1 := Lib.hid h1
        have H4 := Lib.hid h4
        have H5 := Lib.hid h5
        have H6 := Lib.hid h6
        clear h1 h2 h2' h3 h4 h5 h6
        go_upto_region 4 with (fail)
        have c0 : (w1.alloc (.cells #[.int .i64 ((S.bridge v').1 : Int), .int .i64 ((S.bridge v').2 : Int)] 133)).cell? ⟨w1.heap.size, 0, none⟩ = some (.int .i64 ((S.bridge v').1 : Int)) := World.cell?_alloc_new _ _ _ 0
        have c1' : (w1.alloc (.cells #[.int .i64 ((S.bridge v').1 : Int), .int .i64 ((S.bridge v').2 : Int)] 133)).cell? ⟨w1.heap.size, 1, none⟩ = some (.int .i64 ((S.bridge v').2 : Int)) := World.cell?_alloc_new _ _ _ 1
        have hF2 := hF1.alloc (.cells #[.int .i64 ((S.bridge v').1 : Int), .int .i64 ((S.bridge v').2 : Int)] 133)
        have hfr2 : Fr No w (w1.alloc (.cells #[.int .i64 ((S.bridge v').1 : Int), .int .i64 ((S.bridge v').2 : Int)] 133)) := hfr1'.alloc _
        have hO2 : Ow (w1.alloc (.cells #[.int .i64 ((S.bridge v').1 : Int), .int .i64 ((S.bridge v').2 : Int)] 133)) 1 A1 (pre.length + 1) c1 ((pre ++ [v']).map iv) := hO1'.fr ((Fr.refl No _).alloc _) fun _ _ => id
        have hlt8 : ∀ b, InA A1 b → b < w1.heap.size := hO1'.lt
        have hsz2 : (w1.alloc (.cells #[.int .i64 ((S.bridge v').1 : Int), .int .i64 ((S.bridge v').2 : Int)] 133)).heap.size = w1.heap.size + 1 := by simp
        generalize w1.alloc (.cells #[.int .i64 ((S.bridge v').1 : Int), .int .i64 ((S.bridge v').2 : Int)] 133) = w2 at c0 c1' hF2 hfr2 hO2 hsz2 ⊢
        generalize w1.heap.size = b8 at c0 c1' hlt8 hsz2 ⊢
        clear q1 q2 q3 q4 q5 hF1 hfr1' hO1'
        have HS := Lib.hid hsz2
        have hb8 : b8 < w2.heap.size := by omega
        have HL8 := Lib.hid hlt8
        have HA1 := Lib.hid hA1'
        clear hsz2 hlt8 hA1'
        obtain ⟨bm, cm, q3, _, q5⟩ := hF2.gMate hv'n
        have q4 := q5 v' hv'n
        rw [H4.out] at q4; simp only [ev] at q4
        clear q5
        have hl0 : l0.length ≤ N := by have := HLL.out; simp only [List.length_cons, List.length_append, List.length_reverse] at this; omega
        have hl0' : l0.length + pre.length ≤ 900000 ∨ True := .inr trivial
        have hll : pre.length + 1 + l0.length ≤ 1000000 := by have := HLL.out; simp only [List.length_cons, List.length_append, List.length_reverse] at this; omega
        have HB0 : Hid (∀ t ∈ l0, t < n) := fun t ht => HLT.out t (by rw [← HP.out]; simp [ht])
        clear hl0'
        go_region_law (first
          | (refine step_append_ow rfl (.tmp 20) (.tmp 32) 22 rfl 3 i0 (.int .i64 0) 1 8 Try.underlying22 hi hz0 hz1 hz2 rfl (by decide) rfl hO2' rfl hO4.rd (iv_one _) (by omega) (by simp only [maxLen]; omega) ?_; intro A5 c5 w5 hO5 hfr5 hA5)
          | (go_simp; go_at_call 84; refine (IH.out _ (S.bridge v').1 x l0 hl0 (by omega) hF2.drew H5.out HB0.out hxn).mono ?_; rintro e w3 ⟨A3, c3, rfl, hO3, hA3, hfr3⟩)
          | (go_simp; go_at_call 83; refine (turned_spec hO3 (by omega)).mono ?_; rintro e w4 ⟨rfl, hO4, hfr4⟩; have hO2' := ((hO2.fr ((Fr.refl No _).drew) (fun _ _ => id)).fr hfr3 (fun _ _ => id)).fr hfr4 (fun b hb hb' => by have h1 := HL8.out b hb; have h2 := hA3 b hb'; have h3 := HS.out; simp at h2; omega)))
        all_goals
          have r5 : w5.cell? ⟨b8, 1, none⟩ = some (.int .i64 ((S.bridge v').2 : Int)) :=
            hfr5.cell (hfr4.cell (hfr3.cell (a := ⟨b8, 1, none⟩) (by simpa using c1') id) (fun h => by have h1 := hA3 _ h; have h2 := HS.out; simp at h1; omega)) (fun h => by have h1 := HL8.out _ h; simp at h1)
          have z5 : w.heap.size ≤ w4.heap.size := by
            have h1 := hfr2.size
            have h2 := hfr3.size
            have h3 := hfr4.size
            simp at h2; omega
          have t5 : Fr No w w5 := (((hfr2.drew).step hfr3).new hfr4 (fun b hb => by have h1 := hA3 b hb; have h2 := hfr2.size; simp at h1; omega)).new hfr5 (fun b hb => HA1.out b hb)
          have y5 : ∀ b, InA A5 b → w.heap.size ≤ b := fun b hb => by
            rcases hA5 b hb with h | h
            · exact HA1.out b h
            · omega
          clear c0 c1' q3 q4 hO2 hO2' hF2 hfr2 hfr3 hfr4 hfr5 hA3 hA5 hO3 hO4 z5
          go_wp2_with fail
          go_roundg l1.length
          case measure => rw [HG.out]; simp only [List.length_cons, List.length_append]; omega
          case rel => exact ⟨(S.bridge v').2, pre ++ v' :: l0.reverse, l1, A5, c5, rfl, by congr 1; simp; omega, by (have e : (pre ++ v' :: l0.reverse).length = pre.length + 1 + l0.length := by (simp; omega)); rw [e]; simpa using hO5, y5, t5, H6.out, by rw [← HP.out]; simp, rfl⟩
end Gar

namespace Gar
open Go Go.RowKit Go.Proofs
set_option maxRecDepth 100000
set_option maxHeartbeats 1600000
variable {w : World} {own : Nat → Prop} {K : Nat → Nat} {n : Nat} {mate : Nat → Option Nat} {S : FS} {rep : Nat → Nat}

/-- The bases from one on, up to the last. -/
inductive Ch (mate : Nat → Option Nat) (S : St) : Nat → List Nat → Prop
  | last {a : Nat} : mate a = none → Ch mate S a [a]
  | cons {a m : Nat} {l : List Nat} : mate a = some m → Ch mate S (S.B (S.pred m)) l → Ch mate S a (a :: l)

theorem Ch.of_up {T : St} {a r : Nat} {xs : List Nat} (h : Up mate T a xs r) (hr : mate r = none) : Ch mate T a (xs ++ [r]) := by
  induction h with
  | nil a => exact .last hr
  | cons h1 _ ih => exact .cons h1 (ih hr)
theorem Ch.split {T : St} {a x : Nat} {p q : List Nat} (h : Ch mate T a (p ++ x :: q)) : Up mate T a p x ∧ Ch mate T x (x :: q) := by
  induction p generalizing a with
  | nil =>
    have e : x = a := by
      generalize hk : [] ++ x :: q = k at h
      cases h <;> simp_all
    subst e
    exact ⟨.nil _, h⟩
  | cons y p ih =>
    generalize hk : (y :: p) ++ x :: q = k at h
    cases h with
    | last h1 => simp at hk
    | cons h1 h2 =>
      simp only [List.cons_append, List.cons.injEq] at hk
      obtain ⟨rfl, rfl⟩ := hk
      obtain ⟨i, j⟩ := ih h2
      exact ⟨.cons h1 i, j⟩
theorem Ch.next {x : Nat} {q : List Nat} (h : Ch mate (S.st rep) x (x :: q)) : S.above mate rep x = q.head? := by
  cases h with
  | last h1 => simp [FS.above, h1]
  | cons h1 h2 =>
    cases h2 <;> simp [FS.above, h1, FS.st]

def MeetPost (w : World) (own : Nat → Prop) (K : Nat → Nat) (n : Nat) (mate : Nat → Option Nat) (S : FS) (rep : Nat → Nat) (a b : Nat) (e : Ending) (w' : World) : Prop :=
  ∃ z mk' up' xs ys, e = .returned (iv z) ∧ z < n ∧ FM w' own K n mate { S with up := up', mark := mk', turn := S.turn + 1 } ∧ UF n up' rep ∧ Fr own w w' ∧ (∀ u, u < n → mk' u ≤ S.turn + 1) ∧
    Up mate (S.st rep) a xs z ∧ Up mate (S.st rep) b ys z ∧ ∀ x ∈ xs, x ∉ ys

structure MeetInv (w : World) (own : Nat → Prop) (K : Nat → Nat) (n : Nat) (mate : Nat → Option Nat) (S : FS) (rep : Nat → Nat) (ca cb : List Nat) (wr : World) (sw : Bool) (p1 q1 p2 q2 : List Nat) (mk : Nat → Int) (up' : Nat → Nat) : Prop where
  c1 : p1 ++ q1 = if sw then cb else ca
  c2 : p2 ++ q2 = if sw then ca else cb
  fm : FM wr own K n mate { S with up := up', mark := mk, turn := S.turn + 1 }
  uf : UF n up' rep
  fr : Fr own w wr
  mk1 : ∀ u, u < n → (mk u = S.turn + 1 ↔ u ∈ p1 ∨ u ∈ p2)
  mk2 : ∀ u, u < n → mk u ≤ S.turn + 1
  dis : ∀ u ∈ p1, u ∉ p2

def MeetRel (w : World) (own : Nat → Prop) (K : Nat → Nat) (n : Nat) (mate : Nat → Option Nat) (S : FS) (rep : Nat → Nat) (ca cb : List Nat) (g : Nat) (x1 x2 : Value) (wr : World) : Prop :=
  ∃ sw p1 q1 p2 q2 mk up', x1 = ev q1.head? ∧ x2 = ev q2.head? ∧ MeetInv w own K n mate S rep ca cb wr sw p1 q1 p2 q2 mk up' ∧ g = 2 * (q1.length + q2.length) + (if q1 = [] then 1 else 0)

theorem meet_spec (hn : n ≤ 1000000) (hF : FM w own K n mate S) (hU : UF n S.up rep) {a b r : Nat} {ca cb : List Nat} (ha : Ch mate (S.st rep) a (ca ++ [r])) (hb : Ch mate (S.st rep) b (cb ++ [r]))
    (hca : ∀ u ∈ ca ++ [r], u < n ∧ ∀ m, mate u = some m → m < n ∧ S.pred m < n) (hcb : ∀ u ∈ cb ++ [r], u < n ∧ ∀ m, mate u = some m → m < n ∧ S.pred m < n)
    (na : (ca ++ [r]).Nodup) (nb : (cb ++ [r]).Nodup) (hmk : ∀ u, u < n → S.mark u ≤ S.turn) (ht0 : 0 ≤ S.turn) (ht1 : S.turn ≤ 1000000) :
    Calls Try.prog 85 #[.pointer (some ⟨K 13, 0, none⟩), iv a, iv b] w (MeetPost w own K n mate S rep a b) := by
  have h1 := hF.hTurn
  have z1 := hF.hz 13
  have hF1 := hF.setTurn (S.turn + 1)
  have s1 : Fr own w (w.setCell ⟨K 13, 13, none⟩ (.int .i64 (S.turn + 1))) := (Fr.refl _ _).setCell _ _ fun _ => hF.owns 13 (by omega)
  have hea : ∃ t, ca ++ [r] = a :: t := by
    generalize hk : ca ++ [r] = k at ha
    cases ha <;> exact ⟨_, rfl⟩
  have heb : ∃ t, cb ++ [r] = b :: t := by
    generalize hk : cb ++ [r] = k at hb
    cases hb <;> exact ⟨_, rfl⟩
  have HA := Lib.hid ha
  have HB := Lib.hid hb
  have HCA := Lib.hid hca
  have HCB := Lib.hid hcb
  have HMK := Lib.hid hmk
  have HU := Lib.hid hU
  have HEA := Lib.hid hea
  have HEB := Lib.hid heb
  clear ha hb hca hcb hmk hU hF hea heb
  simp only [iv]
  go_enter Try.func85, Try.ntmps85
  go_wp2_with fail
  generalize w.setCell ⟨K 13, 13, none⟩ (.int .i64 (S.turn + 1)) = w1 at hF1 s1 ⊢
  clear h1 z1
  go_loopg [1, 2] (2 * ((ca ++ [r]).length + (cb ++ [r]).length)) (MeetRel w own K n mate S rep (ca ++ [r]) (cb ++ [r]))
  case atStart =>
    obtain ⟨ta, eta⟩ := HEA.out
    obtain ⟨tb, etb⟩ := HEB.out
    refine ⟨false, [], ca ++ [r], [], cb ++ [r], S.mark, S.up, by rw [eta]; rfl, by rw [etb]; rfl, ⟨rfl, rfl, hF1, HU.out, s1, fun u hu => ⟨fun h => ?_, fun h => ?_⟩, fun u hu => ?_, by simp⟩, by simp⟩
    · have := HMK.out u hu; omega
    · simp at h
    · have := HMK.out u hu; omega
  case round =>
    obtain ⟨sw, p1, q1, p2, q2, mk, up', rfl, rfl, M, hg⟩ := hrel
    have HG := Lib.hid hg
    clear hg hF1 s1
    obtain ⟨k2, hk2⟩ : ∃ k, ev q2.head? = .int .i64 k := by cases q2.head? <;> exact ⟨_, rfl⟩
    rw [hk2]
    have HK2 := Lib.hid hk2
    clear hk2
    cases q1 with
    | nil =>
      simp only [List.head?_nil, ev]
      go_wp2_with fail
      have hq2 : q2 ≠ [] := by
        intro e
        subst e
        have e1 := M.c1
        have e2 := M.c2
        simp only [List.append_nil] at e1 e2
        have r1 : r ∈ p1 := by rw [e1]; cases sw <;> simp
        have r2 : r ∈ p2 := by rw [e2]; cases sw <;> simp
        exact M.dis r r1 r2
      go_roundg (2 * (q2.length + 0) + 0)
      case measure => rw [HG.out]; simp
      case rel => exact ⟨!sw, p2, q2, p1, [], mk, up', HK2.out.symm, rfl, ⟨by rw [M.c2]; cases sw <;> rfl, by rw [M.c1]; cases sw <;> rfl, M.fm, M.uf, M.fr, fun u hu => by rw [M.mk1 u hu]; exact or_comm, M.mk2, fun u h1 h2 => M.dis u h2 h1⟩, by simp [hq2]⟩
    | cons x q1 =>
      have hx : x ∈ (if sw then (cb ++ [r]) else (ca ++ [r])) := by rw [← M.c1]; simp
      have hxn : x < n ∧ ∀ m, mate x = some m → m < n ∧ S.pred m < n := by
        cases sw
        · exact HCA.out x hx
        · exact HCB.out x hx
      have hch : Ch mate (S.st rep) (if sw then b else a) (p1 ++ x :: q1) := by
        rw [M.c1]; cases sw
        · exact HA.out
        · exact HB.out
      obtain ⟨u1, u2⟩ := hch.split
      have hab := u2.next
      have a12 := M.fm.hd 12 (by omega)
      have b12 := M.fm.gMark hxn.1
      have aT := M.fm.hTurn
      simp only at b12 aT
      simp only [List.head?_cons, ev]
      have ex : (((x : Nat) : Int) != -1) = true := by simp
      have HXN := Lib.hid hxn
      have HAB := Lib.hid hab
      have U1 := Lib.hid u1
      have hxn' := hxn.1
      have MM := Lib.hid M
      clear hx hxn hab u1 u2 hch M
      by_cases hmx : mk x = S.turn + 1
      · have em : (mk x == S.turn + 1) = true := by simp [hmx]
        have HMX := Lib.hid hmx
        clear hmx
        go_wp2_with fail
        go_quiet (fail)
        go_wp2_with fail
        go_ret
        have hp2 : x ∈ p2 := by
          rcases (MM.out.mk1 x hxn').1 HMX.out with h | h
          · exfalso
            have e := MM.out.c1
            have nd : (p1 ++ x :: q1).Nodup := by rw [e]; cases sw <;> assumption
            exact (List.nodup_append.1 nd).2.2 x h x (by simp) rfl
          · exact h
        obtain ⟨s, t, hst⟩ := List.append_of_mem hp2
        have hch2 : Ch mate (S.st rep) (if sw then a else b) (s ++ x :: (t ++ q2)) := by
          have e := MM.out.c2
          rw [hst] at e
          rw [show s ++ x :: (t ++ q2) = s ++ x :: t ++ q2 by simp, e]
          cases sw
          · exact HB.out
          · exact HA.out
        obtain ⟨v1, _⟩ := hch2.split
        have hd : ∀ u ∈ p1, u ∉ s := fun u h1 h2 => MM.out.dis u h1 (by rw [hst]; simp [h2])
        have hfm := MM.out.fm.drewN nq
        cases sw with
        | false => exact ⟨x, mk, up', p1, s, rfl, hxn', hfm, MM.out.uf, MM.out.fr.drewN nq, MM.out.mk2, U1.out, v1, hd⟩
        | true => exact ⟨x, mk, up', s, p1, rfl, hxn', hfm, MM.out.uf, MM.out.fr.drewN nq, MM.out.mk2, v1, U1.out, fun u h1 h2 => hd u h2 h1⟩
      · have em : (mk x == S.turn + 1) = false := by simp [hmx]
        have HMX := Lib.hid hmx
        clear hmx
        go_upto_region 3 with (fail)
        go_quiet (fail)
        go_upto_region 5 with (fail)
        have hFq := MM.out.fm.drewN nq
        have sq := MM.out.fr.drewN nq
        generalize wr.drewN nq = w3 at hFq sq ⊢
        clear a12 b12 aT
        have a12 := hFq.hd 12 (by omega)
        have b12 := hFq.gMark hxn'
        have aT := hFq.hTurn
        simp only at b12 aT
        have z12 := hFq.fz 12 (by omega) x
        have hF2 := (hFq.setMark x (S.turn + 1)).drew
        have s2 : Fr own w (w3.setCell ⟨K 12, x, none⟩ (.int .i64 (S.turn + 1))).drew := (sq.setCell _ _ fun _ => hFq.owns 12 (by omega)).drew
        go_still_tail 10, (by kernel_rfl)
        go_upto_region 6 with (fail)
        generalize (w3.setCell ⟨K 12, x, none⟩ (.int .i64 (S.turn + 1))).drew = w4 at hF2 s2 ⊢
        clear a12 b12 aT z12 hFq sq
        go_wp2_with fail
        refine (above_spec hn hF2 MM.out.uf hxn' (fun m hm => HXN.out.2 m hm)).mono ?_
        rintro e w5 ⟨rfl, up5, hF5, hU5, hfr5⟩
        have eab : FS.above { label := S.label, outer := S.outer, pred := S.pred, root := S.root, bridge := S.bridge, gone := S.gone, up := up', base := S.base, mark := fun u => if u = x then S.turn + 1 else mk u, turn := S.turn + 1, wait := S.wait } mate rep x = q1.head? := HAB.out
        rw [eab]
        obtain ⟨k5, hk5⟩ : ∃ k, ev q1.head? = .int .i64 k := by cases q1.head? <;> exact ⟨_, rfl⟩
        rw [hk5]
        have HK5 := Lib.hid hk5
        clear hk5 eab
        go_wp2_with fail
        go_roundg (2 * (q2.length + q1.length) + (if q2 = [] then 1 else 0))
        case measure => rw [HG.out]; simp only [List.length_cons]; split <;> simp <;> omega
        case rel =>
          have hx2 : x ∉ p2 := fun h => HMX.out ((MM.out.mk1 x hxn').2 (.inr h))
          refine ⟨!sw, p2, q2, p1 ++ [x], q1, _, up5, HK2.out.symm, HK5.out.symm, ⟨by rw [MM.out.c2]; cases sw <;> rfl, by rw [List.append_assoc]; rw [show [x] ++ q1 = x :: q1 from rfl, MM.out.c1]; cases sw <;> rfl, hF5, hU5, s2.step hfr5, fun u hu => ?_, fun u hu => ?_, fun u h1 h2 => ?_⟩, rfl⟩
          · by_cases e : u = x
            · simp [e]
            · simp only [e, if_false, List.mem_append, List.mem_singleton, or_false]; rw [MM.out.mk1 u hu]; exact or_comm
          · by_cases e : u = x
            · simp [e]
            · simp only [e, if_false]; exact MM.out.mk2 u hu
          · rcases List.mem_append.1 h2 with h2 | h2
            · exact MM.out.dis u h2 h1
            · simp at h2; subst h2; exact hx2 h1
end Gar

namespace Gar
open Go Go.RowKit Go.Proofs
set_option maxRecDepth 100000
set_option maxHeartbeats 1600000
variable {w : World} {own : Nat → Prop} {K : Nat → Nat} {n : Nat} {mate : Nat → Option Nat} {S : FS} {rep : Nat → Nat}

structure ShrinkPre (n : Nat) (mate : Nat → Option Nat) (S : FS) (rep : Nat → Nat) (v u b : Nat) (xs : List Nat) : Prop where
  hv : v < n
  hu : u < n
  hb : b < n
  bb : S.base (rep b) = b
  up : Up mate (S.st rep) (S.base (rep v)) xs b
  hx : ∀ x ∈ xs, x < n ∧ S.base (rep x) = x ∧ S.outer x = true ∧ ∃ m, mate x = some m ∧ m < n ∧ S.outer m = false ∧ S.label m ≠ 0 ∧ S.pred m < n ∧ S.outer (S.pred m) = true ∧ S.base (rep m) = m ∧ (∀ t, t < n → S.base (rep t) = m → t = m)
  nd : xs.Nodup
  nb : b ∉ xs
  bo : S.outer b = true
  cls : ∀ s t, s < n → t < n → S.base (rep s) = S.base (rep t) → rep s = rep t
  inj : ∀ x y m, mate x = some m → mate y = some m → x = y

/-- What has been done, when those of 'don' are passed and the next one is 'cur'. -/
structure ShrinkMid (n : Nat) (mate : Nat → Option Nat) (S : FS) (rep : Nat → Nat) (v u b : Nat) (don : List Nat) (cur : Nat) (o' : Nat → Bool) (br' : Nat → Nat × Nat) (base' rep' : Nat → Nat) : Prop where
  l1 : ∀ t, t < n → (S.base (rep t) ∈ don ∨ ∃ x ∈ don, mate x = some t) → rep' t = rep cur
  l2 : ∀ t, t < n → ¬ (S.base (rep t) ∈ don ∨ ∃ x ∈ don, mate x = some t) → rep' t = rep t
  l3 : don ≠ [] → base' (rep cur) = b
  l4 : ∀ t, t < n → ¬ (S.base (rep t) ∈ don ∨ ∃ x ∈ don, mate x = some t) → (don ≠ [] → S.base (rep t) ≠ cur) → base' (rep t) = S.base (rep t)
  o : ∀ t, o' t = true ↔ S.outer t = true ∨ ∃ x ∈ don, mate x = some t
  b1 : ∀ t x, x ∈ don → mate x = some t → br' t = (v, u)
  b2 : ∀ t, (∀ x ∈ don, mate x ≠ some t) → br' t = S.bridge t

def matesOf (mate : Nat → Option Nat) (xs : List Nat) : List Nat := xs.filterMap mate

def ShrinkPost (w : World) (own : Nat → Prop) (K : Nat → Nat) (n : Nat) (mate : Nat → Option Nat) (S : FS) (rep : Nat → Nat) (v u b : Nat) (xs : List Nat) (e : Ending) (w' : World) : Prop :=
  e = .returned (.tuple #[]) ∧ ∃ own' o' br' up' base' rep', FM w' own' K n mate { S with outer := o', bridge := br', up := up', base := base', wait := S.wait ++ matesOf mate xs } ∧ UF n up' rep' ∧ Stp own w own' w' ∧
    ShrinkMid n mate S rep v u b xs b o' br' base' rep'

def ShrinkRel (w : World) (own : Nat → Prop) (K : Nat → Nat) (n : Nat) (mate : Nat → Option Nat) (S : FS) (rep : Nat → Nat) (v u b : Nat) (xs : List Nat) (g : Nat) (x9 : Value) (wr : World) : Prop :=
  ∃ don rest cur own' o' br' up' base' rep', xs = don ++ rest ∧ cur = rest.headD b ∧ x9 = .int .i64 (cur : Int) ∧ g = rest.length ∧
    FM wr own' K n mate { S with outer := o', bridge := br', up := up', base := base', wait := S.wait ++ matesOf mate don } ∧ UF n up' rep' ∧ Stp own w own' wr ∧ ShrinkMid n mate S rep v u b don cur o' br' base' rep'

theorem ShrinkPre.step {v u b : Nat} {xs don rest : List Nat} {x : Nat} (h : ShrinkPre n mate S rep v u b xs) (hx : xs = don ++ x :: rest) {m : Nat} (hm : mate x = some m) {o' : Nat → Bool} {br' : Nat → Nat × Nat} {base' rep' : Nat → Nat}
    (M : ShrinkMid n mate S rep v u b don x o' br' base' rep') :
    rep' x = rep x ∧ rep' m = rep m ∧ rep m ≠ rep x ∧ rep' (S.pred m) = rep (S.pred m) ∧ rep (S.pred m) = rep (rest.headD b) ∧ base' (rep (S.pred m)) = rest.headD b ∧ rep (S.pred m) ≠ rep x ∧ rep (S.pred m) ≠ rep m ∧ o' m = false ∧
    ShrinkMid n mate S rep v u b (don ++ [x]) (rest.headD b) (fun t => if t = m then true else o' t) (fun t => if t = m then (v, u) else br' t)
      (fun r => if r = rep (S.pred m) then b else if r = rep m then b else base' r)
      (fun t => if (if rep' t = rep x then rep m else rep' t) = rep m then rep (S.pred m) else (if rep' t = rep x then rep m else rep' t)) := by
  have hxm : x ∈ xs := by rw [hx]; simp
  obtain ⟨c1, c2, c3, m', c4, c5, c6, c7, c8, c9, c10, c11⟩ := h.hx x hxm
  rw [hm] at c4; injection c4 with c4; subst c4
  have nd := h.nd
  rw [hx] at nd
  have hxd : x ∉ don := fun hh => (List.nodup_append.1 nd).2.2 x hh x (by simp) rfl
  have hxr : x ∉ rest := (List.nodup_cons.1 (List.nodup_append.1 nd).2.1).1
  have hup := h.up
  rw [hx] at hup
  obtain ⟨_, hup2⟩ := hup.split
  have hnext : S.base (rep (S.pred m)) = rest.headD b := by
    cases hup2 with
    | cons e1 e2 =>
      rw [hm] at e1; injection e1 with e1; subst e1
      cases e2 <;> rfl
  have hcur : rest.headD b < n ∧ S.base (rep (rest.headD b)) = rest.headD b ∧ S.outer (rest.headD b) = true ∧ rest.headD b ∉ don ∧ rest.headD b ≠ x := by
    cases hr : rest with
    | nil =>
      refine ⟨h.hb, h.bb, h.bo, fun hh => h.nb (by rw [hx]; simp [hh, List.headD] at hh ⊢; exact .inl hh), fun e => h.nb (by rw [hx]; simp at e; simp [e])⟩
    | cons y t =>
      have hy : y ∈ xs := by rw [hx, hr]; simp
      obtain ⟨d1, d2, d3, _⟩ := h.hx y hy
      rw [hr] at nd hxr
      exact ⟨d1, d2, d3, fun hh => (List.nodup_append.1 nd).2.2 y hh y (by simp) rfl, fun e => hxr (by simp at e; simp [e])⟩
  obtain ⟨k1, k2, k3, k4, k5⟩ := hcur
  have hmd : ∀ t, S.outer t = true → ¬ ∃ y ∈ don, mate y = some t := by
    rintro t ht ⟨y, hy, hyt⟩
    obtain ⟨_, _, _, m', e1, _, e2, _⟩ := h.hx y (by rw [hx]; simp [hy])
    rw [hyt] at e1; injection e1 with e1; subst e1
    rw [ht] at e2; cases e2
  have hmm : ¬ ∃ y ∈ don, mate y = some m := by
    rintro ⟨y, hy, hyt⟩
    have := h.inj y x m hyt hm
    subst this; exact hxd hy
  have hbm : ∀ y ∈ xs, y ≠ m := fun y hy e => by subst e; have := (h.hx y hy).2.2.1; rw [c6] at this; cases this
  have nx : ¬ (S.base (rep x) ∈ don ∨ ∃ y ∈ don, mate y = some x) := by
    rw [c2]; rintro (e | e)
    · exact hxd e
    · exact hmd x c3 e
  have nm : ¬ (S.base (rep m) ∈ don ∨ ∃ y ∈ don, mate y = some m) := by
    rw [c10]; rintro (e | e)
    · exact hbm m (by rw [hx]; simp [e]) rfl
    · exact hmm e
  have np : ¬ (S.base (rep (S.pred m)) ∈ don ∨ ∃ y ∈ don, mate y = some (S.pred m)) := by
    rw [hnext]; rintro (e | e)
    · exact k4 e
    · exact hmd _ c9 e
  have r1 := M.l2 x c1 nx
  have r2 := M.l2 m c5 nm
  have r3 := M.l2 (S.pred m) c8 np
  have e1 : rep m ≠ rep x := fun e => hbm x hxm (by rw [← c2, ← e, c10])
  have e2 : rep (S.pred m) ≠ rep x := fun e => k5 (by rw [← hnext, e, c2])
  have e3 : rep (S.pred m) ≠ rep m := fun e => by
    have h3 : rest.headD b = m := by rw [← hnext, e, c10]
    rw [h3, c6] at k3; cases k3
  have r4 : rep (S.pred m) = rep (rest.headD b) := h.cls _ _ c8 k1 (by rw [hnext, k2])
  have b4 := M.l4 (S.pred m) c8 np (fun _ => by rw [hnext]; exact k5)
  rw [hnext] at b4
  have om : o' m = false := by
    cases ho : o' m with
    | false => rfl
    | true =>
      rcases (M.o m).1 ho with e | e
      · rw [c6] at e; cases e
      · exact absurd e hmm
  refine ⟨r1, r2, e1, r3, r4, b4, e2, e3, om, ?_⟩
  have mem1 : ∀ y, y ∈ don ++ [x] ↔ y ∈ don ∨ y = x := fun y => by simp
  refine ⟨fun t ht hh => ?_, fun t ht hh => ?_, fun _ => ?_, fun t ht hh hc => ?_, fun t => ?_, fun t y hy hyt => ?_, fun t hh => ?_⟩
  · -- merged
    rw [← r4]
    have : rep' t = rep x ∨ rep' t = rep m := by
      by_cases hold : S.base (rep t) ∈ don ∨ ∃ y ∈ don, mate y = some t
      · exact .inl (M.l1 t ht hold)
      · rw [M.l2 t ht hold]
        rcases hh with hh | ⟨y, hy, hyt⟩
        · rcases (mem1 _).1 hh with hh | hh
          · exact absurd (.inl hh) hold
          · exact .inl (h.cls t x ht c1 (by rw [hh, c2]))
        · rcases (mem1 _).1 hy with hy | hy
          · exact absurd (.inr ⟨y, hy, hyt⟩) hold
          · subst hy; rw [hm] at hyt; injection hyt with hyt; subst hyt; exact .inr rfl
    rcases this with e | e
    · simp [e]
    · simp [e, e1]
  · have hold : ¬ (S.base (rep t) ∈ don ∨ ∃ y ∈ don, mate y = some t) := fun e => hh (by
      rcases e with e | ⟨y, hy, e⟩
      · exact .inl (by simp [e])
      · exact .inr ⟨y, by simp [hy], e⟩)
    have f1 : rep t ≠ rep x := fun e => hh (.inl (by rw [e, c2]; simp))
    have f2 : rep t ≠ rep m := fun e => hh (.inr ⟨x, by simp, by rw [c11 t ht (by rw [e, c10])]; exact hm⟩)
    simp [M.l2 t ht hold, f1, f2]
  · rw [← r4]; simp
  · have hold : ¬ (S.base (rep t) ∈ don ∨ ∃ y ∈ don, mate y = some t) := fun e => hh (by
      rcases e with e | ⟨y, hy, e⟩
      · exact .inl (by simp [e])
      · exact .inr ⟨y, by simp [hy], e⟩)
    have f0 : S.base (rep t) ≠ x := fun e => hh (.inl (by rw [e]; simp))
    have f2 : rep t ≠ rep m := fun e => hh (.inr ⟨x, by simp, by rw [c11 t ht (by rw [e, c10])]; exact hm⟩)
    have f3 : rep t ≠ rep (S.pred m) := fun e => hc (by simp) (by rw [e, hnext])
    simp only [f3, f2, if_false]
    exact M.l4 t ht hold fun _ => f0
  · by_cases e : t = m
    · subst e; simp only [if_true, true_iff]; exact .inr ⟨x, by simp, hm⟩
    · simp only [e, if_false]
      rw [M.o t]
      constructor
      · rintro (h | ⟨y, hy, hyt⟩)
        · exact .inl h
        · exact .inr ⟨y, by simp [hy], hyt⟩
      · rintro (h | ⟨y, hy, hyt⟩)
        · exact .inl h
        · rcases (mem1 _).1 hy with hy | hy
          · exact .inr ⟨y, hy, hyt⟩
          · subst hy; rw [hm] at hyt; injection hyt with hyt; exact absurd hyt.symm e
  · by_cases e : t = m
    · simp [e]
    · simp only [e, if_false]
      rcases (mem1 _).1 hy with hy | hy
      · exact M.b1 t y hy hyt
      · subst hy; rw [hm] at hyt; injection hyt with hyt; exact absurd hyt.symm e
  · have e : t ≠ m := fun e => hh x (by simp) (by rw [e]; exact hm)
    simp only [e, if_false]
    exact M.b2 t fun y hy => hh y (by simp [hy])
end Gar

namespace Gar
variable {n : Nat} {adj : Nat → Nat → Prop} {mate : Nat → Option Nat} {S : FS} {rep : Nat → Nat}

/-- t is in what is passed. -/
def Passed (mate : Nat → Option Nat) (S : FS) (rep : Nat → Nat) (xs : List Nat) (t : Nat) : Prop := S.base (rep t) ∈ xs ∨ ∃ x ∈ xs, mate x = some t

theorem ShrinkMid.B {v u b : Nat} {xs : List Nat} {o' : Nat → Bool} {br' : Nat → Nat × Nat} {base' rep' : Nat → Nat} (P : ShrinkPre n mate S rep v u b xs) (M : ShrinkMid n mate S rep v u b xs b o' br' base' rep') {t : Nat} (ht : t < n) :
    (Passed mate S rep xs t → base' (rep' t) = b ∧ rep' t = rep b) ∧ (¬ Passed mate S rep xs t → base' (rep' t) = S.base (rep t) ∧ rep' t = rep t) := by
  constructor
  · intro h
    have h1 := M.l1 t ht h
    have hne : xs ≠ [] := by rintro rfl; rcases h with h | ⟨x, h, _⟩ <;> simp at h
    exact ⟨by rw [h1]; exact M.l3 hne, h1⟩
  · intro h
    have h1 := M.l2 t ht h
    refine ⟨?_, h1⟩
    rw [h1]
    by_cases e : S.base (rep t) = b
    · by_cases hne : xs = []
      · exact M.l4 t ht h fun h' => absurd hne h'
      · rw [P.cls t b ht P.hb (by rw [e, P.bb]), M.l3 hne, P.bb]
    · exact M.l4 t ht h fun _ => e

theorem Passed.dec (mate : Nat → Option Nat) (S : FS) (rep : Nat → Nat) (xs : List Nat) (t : Nat) : Passed mate S rep xs t ∨ ¬ Passed mate S rep xs t := Classical.em _

/-- What is passed by the first is not passed by the second. -/
theorem ShrinkPre.apart {v u b : Nat} {xs ys : List Nat} (P : ShrinkPre n mate S rep v u b xs) (hd : ∀ x ∈ xs, x ∉ ys) {t : Nat} (h : S.base (rep t) ∈ ys ∨ S.base (rep t) = b) (ho : S.outer t = true) : ¬ Passed mate S rep xs t := by
  rintro (e | ⟨x, hx, e⟩)
  · rcases h with h | h
    · exact hd _ e h
    · exact P.nb (h ▸ e)
  · obtain ⟨_, _, _, m, e1, _, e2, _⟩ := P.hx x hx
    rw [e] at e1; injection e1 with e1; subst e1
    rw [ho] at e2; cases e2

theorem ShrinkPre.second {v u b : Nat} {xs ys : List Nat} {o' : Nat → Bool} {br' : Nat → Nat × Nat} {up' base' rep' : Nat → Nat} {wt : List Nat} (P : ShrinkPre n mate S rep v u b xs) (P2 : ShrinkPre n mate S rep u v b ys)
    (hd : ∀ x ∈ xs, x ∉ ys) (M : ShrinkMid n mate S rep v u b xs b o' br' base' rep') (hvo : S.outer u = true) :
    ShrinkPre n mate { S with outer := o', bridge := br', up := up', base := base', wait := wt } rep' u v b ys := by
  have om : ∀ t, S.outer t = true → o' t = true := fun t h => (M.o t).2 (.inl h)
  have hB : ∀ t, t < n → S.outer t = true → (S.base (rep t) ∈ ys ∨ S.base (rep t) = b) → base' (rep' t) = S.base (rep t) := fun t ht ho h => ((M.B P ht).2 (P.apart hd h ho)).1
  refine ⟨P2.hv, P2.hu, P2.hb, ?_, ?_, ?_, P2.nd, P2.nb, om b P2.bo, ?_, P2.inj⟩
  · show base' (rep' b) = b
    rw [hB b P2.hb P2.bo (.inr P2.bb), P2.bb]
  · have key : ∀ a zs, Up mate (S.st rep) a zs b → (∀ z ∈ zs, z ∈ ys) → Up mate (FS.st { S with outer := o', bridge := br', up := up', base := base', wait := wt } rep') a zs b := by
      intro a zs h
      induction h with
      | nil a => intro _; exact .nil a
      | @cons a m b zs h1 h2 ih =>
        intro hz
        refine .cons h1 ?_
        obtain ⟨_, _, _, m', e1, e2, e3, e4, e5, e6, _⟩ := P2.hx a (hz a (by simp))
        rw [h1] at e1; injection e1 with e1; subst e1
        have hn : S.base (rep (S.pred m)) ∈ ys ∨ S.base (rep (S.pred m)) = b := by
          cases h2 with
          | nil => exact .inr rfl
          | cons => exact .inl (hz _ (by simp [FS.st]))
        have := ih P P2 M hB (fun z hz' => hz z (by simp [hz']))
        have e7 : (FS.st { S with outer := o', bridge := br', up := up', base := base', wait := wt } rep').B ((FS.st { S with outer := o', bridge := br', up := up', base := base', wait := wt } rep').pred m) = (S.st rep).B ((S.st rep).pred m) := hB _ e5 e6 hn
        rw [e7]; exact this
    have hu : S.base (rep u) ∈ ys ∨ S.base (rep u) = b := by
      have := P2.up
      generalize hk : S.base (rep u) = k at this
      cases this with
      | nil => exact .inr rfl
      | cons => exact .inl (by simp)
    have e8 : base' (rep' u) = S.base (rep u) := hB u P2.hv hvo hu
    show Up mate _ (base' (rep' u)) ys b
    rw [e8]; exact key _ _ P2.up fun _ h => h
  · intro y hy
    obtain ⟨d1, d2, d3, m, e1, e2, e3, e4, e5, e6, e7, e8⟩ := P2.hx y hy
    have nm : ¬ ∃ x ∈ xs, mate x = some m := by
      rintro ⟨x, hx, e⟩
      have := P.inj x y m e e1
      subst this; exact hd x hx hy
    have pm : ¬ Passed mate S rep xs m := by
      rintro (e | e)
      · rw [e7] at e; have := (P.hx m e).2.2.1; rw [e3] at this; cases this
      · exact nm e
    have hBm := ((M.B P e2).2 pm).1
    refine ⟨d1, by show base' (rep' y) = y; rw [hB y d1 d3 (.inl (by rw [d2]; exact hy)), d2], om y d3, m, e1, e2, ?_, e4, e5, om _ e6, by show base' (rep' m) = m; rw [hBm, e7], fun t ht hb => ?_⟩
    · show o' m = false
      cases h : o' m with
      | false => rfl
      | true =>
        rcases (M.o m).1 h with h | h
        · rw [e3] at h; cases h
        · exact absurd h nm
    · change base' (rep' t) = m at hb
      rcases Passed.dec mate S rep xs t with h | h
      · rw [((M.B P ht).1 h).1] at hb
        have := P.bo; rw [hb, e3] at this; cases this
      · rw [((M.B P ht).2 h).1] at hb
        exact e8 t ht hb
  · intro s t hs ht e
    change base' (rep' s) = base' (rep' t) at e
    rcases Passed.dec mate S rep xs s with h1 | h1 <;> rcases Passed.dec mate S rep xs t with h2 | h2
    · rw [((M.B P hs).1 h1).2, ((M.B P ht).1 h2).2]
    · rw [((M.B P hs).1 h1).1, ((M.B P ht).2 h2).1] at e
      rw [((M.B P hs).1 h1).2, ((M.B P ht).2 h2).2]
      exact P.cls b t P.hb ht (by rw [P.bb, e])
    · rw [((M.B P hs).2 h1).1, ((M.B P ht).1 h2).1] at e
      rw [((M.B P hs).2 h1).2, ((M.B P ht).1 h2).2]
      exact P.cls s b hs P.hb (by rw [P.bb, e])
    · rw [((M.B P hs).2 h1).1, ((M.B P ht).2 h2).1] at e
      rw [((M.B P hs).2 h1).2, ((M.B P ht).2 h2).2]
      exact P.cls s t hs ht e

/-- TWO SHRINKINGS: a blossom has closed. -/
theorem ShrinkMid.shrunk {v u b : Nat} {xs ys : List Nat} {o1 o2 : Nat → Bool} {br1 br2 : Nat → Nat × Nat} {up1 base1 rep1 base2 rep2 : Nat → Nat} {wt : List Nat} (P : ShrinkPre n mate S rep v u b xs) (P2 : ShrinkPre n mate S rep u v b ys)
    (hd : ∀ x ∈ xs, x ∉ ys) (M : ShrinkMid n mate S rep v u b xs b o1 br1 base1 rep1) (hvo : S.outer u = true)
    (M2 : ShrinkMid n mate { S with outer := o1, bridge := br1, up := up1, base := base1, wait := wt } rep1 u v b ys b o2 br2 base2 rep2) {up2 : Nat → Nat} {wt2 : List Nat} {mk : Nat → Int} {tn : Int} :
    Shrunk n mate (S.st rep) (FS.st { S with outer := o2, bridge := br2, up := up2, base := base2, wait := wt2, mark := mk, turn := tn } rep2) v u xs ys b ∧
    (∀ s t, s < n → t < n → base2 (rep2 s) = base2 (rep2 t) → rep2 s = rep2 t) := by
  have Q := ShrinkPre.second (up' := up1) (wt := wt) P P2 hd M hvo
  have noY : ∀ t x, x ∈ xs → mate x = some t → ∀ y ∈ ys, mate y ≠ some t := fun t x hx hm y hy h => by
    have := P.inj x y t hm h
    subst this; exact hd x hx hy
  have noO : ∀ t, S.outer t = true → (∀ x ∈ xs, mate x ≠ some t) ∧ (∀ y ∈ ys, mate y ≠ some t) := by
    intro t ht
    constructor
    · intro x hx h
      obtain ⟨_, _, _, m, e1, _, e2, _⟩ := P.hx x hx
      rw [h] at e1; injection e1 with e1; subst e1
      rw [ht] at e2; cases e2
    · intro x hx h
      obtain ⟨_, _, _, m, e1, _, e2, _⟩ := P2.hx x hx
      rw [h] at e1; injection e1 with e1; subst e1
      rw [ht] at e2; cases e2
  refine ⟨⟨rfl, rfl, rfl, fun t ht => ?_, fun t x hx hm => ?_, fun t x hx hm => ?_, fun t ht => ?_, fun t ht h => ?_, fun t ht h => ?_⟩, ?_⟩
  · show o2 t = true ↔ _
    rw [M2.o t]
    show o1 t = true ∨ _ ↔ _
    rw [M.o t]
    show (S.outer t = true ∨ _) ∨ _ ↔ S.outer t = true ∨ _
    constructor
    · rintro ((h | ⟨x, hx, h⟩) | ⟨y, hy, h⟩)
      · exact .inl h
      · exact .inr ⟨x, .inl hx, h⟩
      · exact .inr ⟨y, .inr hy, h⟩
    · rintro (h | ⟨x, hx | hx, h⟩)
      · exact .inl (.inl h)
      · exact .inl (.inr ⟨x, hx, h⟩)
      · exact .inr ⟨x, hx, h⟩
  · show br2 t = (v, u)
    rw [M2.b2 t (noY t x hx hm)]
    exact M.b1 t x hx hm
  · show br2 t = (u, v)
    exact M2.b1 t x hx hm
  · show br2 t = S.bridge t
    rw [M2.b2 t (noO t ht).2]
    exact M.b2 t (noO t ht).1
  · show base2 (rep2 t) = b
    rcases Passed.dec mate { S with outer := o1, bridge := br1, up := up1, base := base1, wait := wt } rep1 ys t with k | k
    · exact ((M2.B Q ht).1 k).1
    · rw [((M2.B Q ht).2 k).1]
      show base1 (rep1 t) = b
      rcases Passed.dec mate S rep xs t with k' | k'
      · exact ((M.B P ht).1 k').1
      · exfalso
        have hB1 := ((M.B P ht).2 k').1
        rcases h with h | h | ⟨x, hx | hx, h⟩
        · exact k' (.inl h)
        · exact k (.inl (by show base1 (rep1 t) ∈ ys; rw [hB1]; exact h))
        · exact k' (.inr ⟨x, hx, h⟩)
        · exact k (.inr ⟨x, hx, h⟩)
  · show base2 (rep2 t) = S.base (rep t)
    have k' : ¬ Passed mate S rep xs t := by
      rintro (e | ⟨x, hx, e⟩)
      · exact h (.inl e)
      · exact h (.inr (.inr ⟨x, .inl hx, e⟩))
    have hB1 := ((M.B P ht).2 k').1
    have k : ¬ Passed mate { S with outer := o1, bridge := br1, up := up1, base := base1, wait := wt } rep1 ys t := by
      rintro (e | ⟨x, hx, e⟩)
      · change base1 (rep1 t) ∈ ys at e
        rw [hB1] at e; exact h (.inr (.inl e))
      · exact h (.inr (.inr ⟨x, .inr hx, e⟩))
    rw [((M2.B Q ht).2 k).1]
    exact hB1
  · intro s t hs ht e
    rcases Passed.dec mate { S with outer := o1, bridge := br1, up := up1, base := base1, wait := wt } rep1 ys s with h1 | h1 <;> rcases Passed.dec mate { S with outer := o1, bridge := br1, up := up1, base := base1, wait := wt } rep1 ys t with h2 | h2
    · rw [((M2.B Q hs).1 h1).2, ((M2.B Q ht).1 h2).2]
    · rw [((M2.B Q hs).1 h1).1, ((M2.B Q ht).2 h2).1] at e
      rw [((M2.B Q hs).1 h1).2, ((M2.B Q ht).2 h2).2]
      exact Q.cls b t P.hb ht (by rw [Q.bb, e])
    · rw [((M2.B Q hs).2 h1).1, ((M2.B Q ht).1 h2).1] at e
      rw [((M2.B Q hs).2 h1).2, ((M2.B Q ht).1 h2).2]
      exact Q.cls s b hs P.hb (by rw [Q.bb, e])
    · rw [((M2.B Q hs).2 h1).1, ((M2.B Q ht).2 h2).1] at e
      rw [((M2.B Q hs).2 h1).2, ((M2.B Q ht).2 h2).2]
      exact Q.cls s t hs ht e
end Gar

namespace Gar
variable {n : Nat} {adj : Nat → Nat → Prop} {mate : Nat → Option Nat} {S : FS} {rep : Nat → Nat}

structure FOk (n : Nat) (adj : Nat → Nat → Prop) (mate : Nat → Option Nat) (S : FS) (rep : Nat → Nat) : Prop where
  inv : Inv n adj mate (S.st rep)
  cls : ∀ s t, s < n → t < n → S.base (rep s) = S.base (rep t) → rep s = rep t
  mks : ∀ u, u < n → S.mark u ≤ S.turn
  t0 : 0 ≤ S.turn
  t1 : S.turn ≤ ((setOf n S.outer).length : Int)
  wnd : S.wait.Nodup
  wo : ∀ v ∈ S.wait, v < n ∧ S.outer v = true
  on : ∀ u, S.outer u = true → u < n

theorem setOf_len (n : Nat) (T : Nat → Bool) : (setOf n T).length ≤ n := by
  have := List.length_filter_le T (List.range n)
  simpa [setOf] using this
theorem FOk.turn_le (h : FOk n adj mate S rep) : S.turn ≤ n := by have := h.t1; have := setOf_len n S.outer; omega
theorem nodup_le {n : Nat} {l : List Nat} (h : l.Nodup) (hl : ∀ v ∈ l, v < n) : l.length ≤ n := by
  have := nodup_len_le l (List.range n) h (fun x hx => List.mem_range.2 (hl x hx))
  simpa using this
theorem FOk.wait_le (h : FOk n adj mate S rep) : S.wait.length ≤ n := nodup_le h.wnd fun v hv => (h.wo v hv).1

/-- What a step leaves as it was, and what it adds. -/
structure Later (n : Nat) (S : FS) (rep : Nat → Nat) (S' : FS) (rep' : Nat → Nat) : Prop where
  label : ∀ t, t < n → S.label t ≠ 0 → S'.label t = S.label t
  root : ∀ t, t < n → S.label t ≠ 0 → S'.root t = S.root t
  outer : ∀ t, S.outer t = true → S'.outer t = true
  new : ∀ t, t < n → S'.outer t = true → S.outer t = true ∨ t ∈ S'.wait
  wait : ∀ t, t ∈ S.wait → t ∈ S'.wait
  B : ∀ s t, s < n → t < n → S.outer s = true → S.outer t = true → S.base (rep s) = S.base (rep t) → S'.base (rep' s) = S'.base (rep' t)
  gone : S'.gone = S.gone
  fresh : ∀ t, t ∈ S'.wait → t ∈ S.wait ∨ S.outer t = false

theorem FOk.pre (M : Mat n adj mate) (h : FOk n adj mate S rep) {v u z : Nat} {xs : List Nat} (hv : v < n) (ho : S.outer v = true) (hu : u < n) (hx : Up mate (S.st rep) (S.base (rep v)) xs z) :
    ShrinkPre n mate S rep v u z xs := by
  obtain ⟨ord, I⟩ := h.inv
  have hb : IsBase n (S.st rep) (S.base (rep v)) := IsBase.of I hv ho
  obtain ⟨b1, b2, b3, b4⟩ := hx.bases M I hb
  obtain ⟨n1, n2⟩ := hx.nodup M I hb
  refine ⟨hv, hu, b1.1, b1.2.2, hx, fun x hxx => ?_, n1, n2, b1.2.1, h.cls, fun x y m hm1 hm2 => ?_⟩
  · obtain ⟨c1, c2, c3, c4, m, hm⟩ := b4 x hxx
    obtain ⟨k1, k2, k3, k4, k5, k6, k7, k8, k9, k10, k11, k12, k13⟩ := c1.above M I hm
    exact ⟨c1.1, c1.2.2, c1.2.1, m, hm, k1, k3, by show (S.st rep).label m ≠ 0; rw [k2]; decide, k6, k7, k4, (I.i8 m k1 k3).2⟩
  · have h1 := M.sym _ _ hm1
    have h2 := M.sym _ _ hm2
    rw [h1] at h2; injection h2

theorem mem_matesOf {xs : List Nat} {m : Nat} : m ∈ matesOf mate xs ↔ ∃ x ∈ xs, mate x = some m := by simp [matesOf]
theorem nodup_matesOf (hi : ∀ x y m, mate x = some m → mate y = some m → x = y) : ∀ {xs : List Nat}, xs.Nodup → (matesOf mate xs).Nodup
  | [], _ => by simp [matesOf]
  | x :: xs, h => by
    have hn := List.nodup_cons.1 h
    have ih := nodup_matesOf hi hn.2
    cases hm : mate x with
    | none => simpa [matesOf, hm] using ih
    | some m =>
      have : matesOf mate (x :: xs) = m :: matesOf mate xs := by simp [matesOf, hm]
      rw [this]
      refine List.nodup_cons.2 ⟨fun hh => ?_, ih⟩
      obtain ⟨y, hy, e⟩ := mem_matesOf.1 hh
      have := hi x y m hm e
      subst this; exact hn.1 hy

/-- A BLOSSOM KEEPS IT. -/
theorem FOk.blossom (G : Gr n adj) (M : Mat n adj mate) (h : FOk n adj mate S rep) {v u z : Nat} {xs ys : List Nat} (hv : v < n) (ho : S.outer v = true) (hu : u < n) (huo : S.outer u = true) (hvu : adj v u)
    (hne : S.base (rep v) ≠ S.base (rep u)) (hx : Up mate (S.st rep) (S.base (rep v)) xs z) (hy : Up mate (S.st rep) (S.base (rep u)) ys z) (hd : ∀ x ∈ xs, x ∉ ys)
    {o1 o2 : Nat → Bool} {br1 br2 : Nat → Nat × Nat} {up1 base1 rep1 base2 rep2 : Nat → Nat} {wt : List Nat}
    {mk : Nat → Int} (hmk : ∀ t, t < n → mk t ≤ S.turn + 1) {mk1 : Nat → Int} {tn1 : Int}
    (M1 : ShrinkMid n mate { S with mark := mk1, turn := tn1 } rep v u z xs z o1 br1 base1 rep1)
    (M2 : ShrinkMid n mate { S with outer := o1, bridge := br1, up := up1, base := base1, wait := wt, mark := mk1, turn := tn1 } rep1 u v z ys z o2 br2 base2 rep2) {up2 : Nat → Nat} :
    FOk n adj mate { S with outer := o2, bridge := br2, up := up2, base := base2, wait := S.wait ++ matesOf mate xs ++ matesOf mate ys, mark := mk, turn := S.turn + 1 } rep2 ∧
    Later n S rep { S with outer := o2, bridge := br2, up := up2, base := base2, wait := S.wait ++ matesOf mate xs ++ matesOf mate ys, mark := mk, turn := S.turn + 1 } rep2 ∧ base2 (rep2 v) = base2 (rep2 u) := by
  have P := h.pre M hv ho hu hx
  have P2 := h.pre M hu huo hv hy
  have M1' : ShrinkMid n mate S rep v u z xs z o1 br1 base1 rep1 := ⟨M1.l1, M1.l2, M1.l3, M1.l4, M1.o, M1.b1, M1.b2⟩
  have M2' : ShrinkMid n mate { S with outer := o1, bridge := br1, up := up1, base := base1, wait := wt } rep1 u v z ys z o2 br2 base2 rep2 := ⟨M2.l1, M2.l2, M2.l3, M2.l4, M2.o, M2.b1, M2.b2⟩
  obtain ⟨SH, cls2⟩ := ShrinkMid.shrunk (up1 := up1) (up2 := up2) (wt := wt) (wt2 := S.wait ++ matesOf mate xs ++ matesOf mate ys) (mk := mk) (tn := S.turn + 1) P P2 hd M1' huo M2'
  obtain ⟨ord, I⟩ := h.inv
  have I2 := I.shrink G M h.on hv ho hu huo hvu hx hy hd SH
  have ho2 : ∀ t, o2 t = true ↔ S.outer t = true ∨ (∃ x ∈ xs, mate x = some t) ∨ ∃ y ∈ ys, mate y = some t := fun t => by
    rw [M2.o t]
    show (o1 t = true ∨ _) ↔ _
    rw [M1.o t]
    show ((S.outer t = true ∨ _) ∨ _) ↔ _
    exact or_assoc
  have hxm : ∀ m, m ∈ matesOf mate xs → m < n ∧ S.outer m = false := fun m hm => by
    obtain ⟨x, hxx, e⟩ := mem_matesOf.1 hm
    obtain ⟨_, _, _, m', e1, e2, e3, _⟩ := P.hx x hxx
    rw [e] at e1; injection e1 with e1; subst e1; exact ⟨e2, e3⟩
  have hym : ∀ m, m ∈ matesOf mate ys → m < n ∧ S.outer m = false := fun m hm => by
    obtain ⟨x, hxx, e⟩ := mem_matesOf.1 hm
    obtain ⟨_, _, _, m', e1, e2, e3, _⟩ := P2.hx x hxx
    rw [e] at e1; injection e1 with e1; subst e1; exact ⟨e2, e3⟩
  have hBB : ∀ s t, s < n → t < n → S.base (rep s) = S.base (rep t) → base2 (rep2 s) = base2 (rep2 t) := by
    intro s t hs ht e
    have key : ∀ s t, s < n → t < n → S.base (rep s) = S.base (rep t) → (S.base (rep s) ∈ xs ∨ S.base (rep s) ∈ ys ∨ ∃ x, (x ∈ xs ∨ x ∈ ys) ∧ mate x = some s) → (S.base (rep t) ∈ xs ∨ S.base (rep t) ∈ ys ∨ ∃ x, (x ∈ xs ∨ x ∈ ys) ∧ mate x = some t) := by
      intro s t hs ht e k
      rcases k with k | k | ⟨x, k, k'⟩
      · exact .inl (e ▸ k)
      · exact .inr (.inl (e ▸ k))
      · have hb : S.base (rep s) = s ∧ ∀ t, t < n → S.base (rep t) = s → t = s := by
          rcases k with k | k
          · obtain ⟨_, _, _, m', e1, e2, e3, _, _, _, e7, e8⟩ := P.hx x k
            rw [k'] at e1; injection e1 with e1; subst e1; exact ⟨e7, e8⟩
          · obtain ⟨_, _, _, m', e1, e2, e3, _, _, _, e7, e8⟩ := P2.hx x k
            rw [k'] at e1; injection e1 with e1; subst e1; exact ⟨e7, e8⟩
        have := hb.2 t ht (by rw [← e, hb.1])
        subst this; exact .inr (.inr ⟨x, k, k'⟩)
    rcases Classical.em (S.base (rep s) ∈ xs ∨ S.base (rep s) ∈ ys ∨ ∃ x, (x ∈ xs ∨ x ∈ ys) ∧ mate x = some s) with k | k
    · exact (SH.B1 s hs k).trans (SH.B1 t ht (key s t hs ht e k)).symm
    · have k2 : ¬ (S.base (rep t) ∈ xs ∨ S.base (rep t) ∈ ys ∨ ∃ x, (x ∈ xs ∨ x ∈ ys) ∧ mate x = some t) := fun k2 => k (key t s ht hs e.symm k2)
      exact (SH.B2 s hs k).trans (e.trans (SH.B2 t ht k2).symm)
  have hend : ∀ {a : Nat} {zs : List Nat} {t : Nat}, t < n → S.outer t = true → S.base (rep t) = a → Up mate (S.st rep) a zs z → (∀ y ∈ zs, y ∈ xs ∨ y ∈ ys) → base2 (rep2 t) = z := by
    intro a zs t ht hto e hup hz
    cases hup with
    | nil =>
      have e2 : base2 (rep2 t) = base2 (rep2 z) := hBB t z ht P.hb (by rw [e, P.bb])
      rw [e2]
      have : ¬ (S.base (rep z) ∈ xs ∨ S.base (rep z) ∈ ys ∨ ∃ x, (x ∈ xs ∨ x ∈ ys) ∧ mate x = some z) := by
        rw [P.bb]
        rintro (k | k | ⟨x, k | k, k'⟩)
        · exact P.nb k
        · exact P2.nb k
        · have := (hxm z (mem_matesOf.2 ⟨x, k, k'⟩)).2; rw [P.bo] at this; cases this
        · have := (hym z (mem_matesOf.2 ⟨x, k, k'⟩)).2; rw [P.bo] at this; cases this
      exact (SH.B2 z P.hb this).trans P.bb
    | cons _ _ =>
      refine SH.B1 t ht ?_
      rcases hz _ List.mem_cons_self with k | k
      · exact .inl (by show S.base (rep t) ∈ xs; rw [e]; exact k)
      · exact .inr (.inl (by show S.base (rep t) ∈ ys; rw [e]; exact k))
  refine ⟨⟨⟨ord, I2⟩, cls2, hmk, by show 0 ≤ S.turn + 1; have := h.t0; omega, ?_, ?_, ?_, ?_⟩, ⟨fun _ _ _ => rfl, fun _ _ _ => rfl, fun t ht => (ho2 t).2 (.inl ht), fun t _ ht => ?_, fun t ht => ?_, fun s t hs ht _ _ e => hBB s t hs ht e, rfl, fun t ht => ?_⟩, ?_⟩
  · -- one more that is outer
    show S.turn + 1 ≤ ((setOf n o2).length : Int)
    have : ∃ m, m < n ∧ S.outer m = false ∧ o2 m = true := by
      cases hxe : xs with
      | cons x t =>
        obtain ⟨_, _, _, m, e1, e2, e3, _⟩ := P.hx x (by rw [hxe]; simp)
        exact ⟨m, e2, e3, (ho2 m).2 (.inr (.inl ⟨x, by rw [hxe]; simp, e1⟩))⟩
      | nil =>
        cases hye : ys with
        | cons y t =>
          obtain ⟨_, _, _, m, e1, e2, e3, _⟩ := P2.hx y (by rw [hye]; simp)
          exact ⟨m, e2, e3, (ho2 m).2 (.inr (.inr ⟨y, by rw [hye]; simp, e1⟩))⟩
        | nil =>
          rw [hxe] at hx; rw [hye] at hy
          generalize e1 : S.base (rep v) = a at hx
          generalize e2 : S.base (rep u) = c at hy
          cases hx; cases hy
          exact absurd (e1.trans e2.symm) hne
    obtain ⟨m, m1, m2, m3⟩ := this
    have hlen : (setOf n S.outer).length < (setOf n o2).length := by
      have hm : m ∈ setOf n o2 := mem_setOf.2 ⟨m1, m3⟩
      have := nodup_len_le (setOf n S.outer) ((setOf n o2).erase m) (nodup_setOf n _) (fun x hx => by
        obtain ⟨a, b⟩ := mem_setOf.1 hx
        exact (List.mem_erase_of_ne (fun e => by subst e; rw [m2] at b; cases b)).2 (mem_setOf.2 ⟨a, (ho2 x).2 (.inl b)⟩))
      have h5 := List.length_erase_of_mem hm
      have h6 : 0 < (setOf n o2).length := List.length_pos_of_mem hm
      omega
    have := h.t1; omega
  · show (S.wait ++ matesOf mate xs ++ matesOf mate ys).Nodup
    refine List.nodup_append.2 ⟨List.nodup_append.2 ⟨h.wnd, nodup_matesOf P.inj P.nd, fun a ha b hb e => ?_⟩, nodup_matesOf P.inj P2.nd, fun a ha b hb e => ?_⟩
    · subst e; have := (h.wo a ha).2; rw [(hxm a hb).2] at this; cases this
    · subst e
      rcases List.mem_append.1 ha with ha | ha
      · have := (h.wo a ha).2; rw [(hym a hb).2] at this; cases this
      · obtain ⟨x, hx1, e1⟩ := mem_matesOf.1 ha
        obtain ⟨y, hy1, e2⟩ := mem_matesOf.1 hb
        have := P.inj x y a e1 e2
        subst this; exact hd x hx1 hy1
  · intro t ht
    show t < n ∧ o2 t = true
    change t ∈ S.wait ++ matesOf mate xs ++ matesOf mate ys at ht
    rw [ho2 t]
    rcases List.mem_append.1 ht with ht | ht
    · rcases List.mem_append.1 ht with ht | ht
      · exact ⟨(h.wo t ht).1, .inl (h.wo t ht).2⟩
      · exact ⟨(hxm t ht).1, .inr (.inl (mem_matesOf.1 ht))⟩
    · exact ⟨(hym t ht).1, .inr (.inr (mem_matesOf.1 ht))⟩
  · intro t ht
    rcases (ho2 t).1 ht with k | k | k
    · exact h.on t k
    · exact (hxm t (mem_matesOf.2 k)).1
    · exact (hym t (mem_matesOf.2 k)).1
  · rcases (ho2 t).1 ht with k | k | k
    · exact .inl k
    · exact .inr (by simp [mem_matesOf.2 k])
    · exact .inr (by simp [mem_matesOf.2 k])
  · show t ∈ S.wait ++ matesOf mate xs ++ matesOf mate ys
    simp [ht]
  · change t ∈ S.wait ++ matesOf mate xs ++ matesOf mate ys at ht
    rcases List.mem_append.1 ht with ht | ht
    · rcases List.mem_append.1 ht with ht | ht
      · exact .inl ht
      · exact .inr (hxm t ht).2
    · exact .inr (hym t ht).2
  · rw [hend hv ho rfl hx fun y hy => .inl hy, hend hu huo rfl hy fun y hy => .inr hy]
end Gar

namespace Gar
open Go Go.RowKit Go.Proofs
set_option maxRecDepth 100000
set_option maxHeartbeats 1600000
variable {w : World} {own : Nat → Prop} {K : Nat → Nat} {n : Nat} {mate : Nat → Option Nat} {S : FS} {rep : Nat → Nat}

theorem FS.raise_odd {S : FS} {m : Nat} (h : S.label m ≠ 0) : S.raise m 2 = { S with outer := fun u => if u = m then true else S.outer u, wait := S.wait ++ [m] } := by
  unfold FS.raise
  have : (fun u => if u = m then (if S.label m = 0 then 2 else S.label m) else S.label u) = S.label := by
    funext u
    by_cases e : u = m
    · subst e; simp [h]
    · simp [e]
  rw [this]

theorem shrink_spec (hn : n ≤ 1000000) (hF : FM w own K n mate S) (hU : UF n S.up rep) {v u b : Nat} {xs : List Nat} (hP : ShrinkPre n mate S rep v u b xs) (hwl : S.wait.length + xs.length ≤ 1000000) :
    Calls Try.prog 86 #[.pointer (some ⟨K 13, 0, none⟩), iv v, iv u, iv b] w (ShrinkPost w own K n mate S rep v u b xs) := by
  obtain ⟨y1, c1⟩ := hF.gEven hP.hv
  obtain ⟨y2, c2⟩ := hF.gEven hP.hu
  have a4 := hF.hd 4 (by omega)
  have hv := hP.hv
  have hu := hP.hu
  have HP := Lib.hid hP
  have HU := Lib.hid hU
  clear hP hU
  simp only [iv]
  go_enter Try.func86, Try.ntmps86
  go_wp2_with fail
  go_quiet (fail)
  go_upto_region 1 with (fail)
  have hFq := hF.drewN nq
  have sq : Stp own w own (w.drewN nq) := (Stp.refl own w).drewN nq
  generalize w.drewN nq = w1 at hFq sq ⊢
  clear c1 c2 a4 hF
  go_wp2_with fail
  refine (base_spec hn hFq HU.out hv).mono ?_
  rintro e w2 ⟨rfl, up2, hF2, hU2, hfr2⟩
  have s2 : Stp own w own w2 := sq.trans ⟨hfr2, fun _ h => .inl h⟩
  simp only [iv]
  clear hFq sq hfr2
  go_wp2_with fail
  generalize wrap64 (wrap64 (y1 + y2) + 1) = L
  generalize wrap64 (y1 + y2) = L0
  have HF2 := Lib.hid hF2
  have HU2 := Lib.hid hU2
  have HS2 := Lib.hid s2
  clear hF2 hU2 s2
  go_loopg [9] xs.length (ShrinkRel w own K n mate S rep v u b xs)
  case atStart =>
    refine ⟨[], xs, S.base (rep v), own, S.outer, S.bridge, up2, S.base, rep, rfl, ?_, rfl, rfl, by simpa [matesOf] using HF2.out, HU2.out, HS2.out, ?_⟩
    · have := HP.out.up
      cases this <;> rfl
    · exact ⟨fun t _ h => by simp at h, fun t _ _ => rfl, fun h => absurd rfl h, fun t _ _ _ => rfl, fun t => by simp, fun t x h => by simp at h, fun t _ => rfl⟩
  case round =>
    obtain ⟨don, rest, cur, own1, o', br', up', base', rep', hxs, hcur, rfl, hg, F, U, s, M⟩ := hrel
    have HG := Lib.hid hg
    have HX := Lib.hid hxs
    have MM := Lib.hid M
    have HC := Lib.hid hcur
    clear hg hxs hcur M HF2 HU2 HS2
    cases rest with
    | nil =>
      have e : cur = b := HC.out
      have e1 : (((cur : Nat) : Int) != ((b : Nat) : Int)) = false := by simp [e]
      have HE := Lib.hid e
      clear e
      go_wp2_with fail
      refine bodyPost_end (results_none rfl _ _ _) rfl ?_
      have hx := HX.out
      have hm := MM.out
      rw [HE.out] at hm
      simp only [List.append_nil] at hx
      rw [← hx] at F hm
      exact ⟨rfl, own1, o', br', up', base', rep', F, U, s, hm⟩
    | cons x rest =>
      have e : cur = x := HC.out
      subst e
      have hxm : cur ∈ xs := by rw [HX.out]; simp
      have hne : cur ≠ b := fun e => HP.out.nb (e ▸ hxm)
      have e1 : (((cur : Nat) : Int) != ((b : Nat) : Int)) = true := by simp; omega
      obtain ⟨q1, q2, q3, m, q4, q5, q6, q7, q8, q9, q10, q11⟩ := HP.out.hx cur hxm
      obtain ⟨t1, t2, t3, t4, t5, t6, t7, t8, t9, N⟩ := HP.out.step HX.out q4 MM.out
      obtain ⟨bm, cm, g1, _, g3⟩ := F.gMate q1
      have g2 := g3 cur q1
      rw [q4] at g2; simp only [ev] at g2
      have g4 := F.hd 3 (by omega)
      have g5 := F.gOuter q5
      simp only [t9] at g5
      have g6 := F.hd 8 (by omega)
      obtain ⟨g7, g8⟩ := F.gBridge q5
      have z1 := F.fz 8 (by omega) (m * 2)
      have z2 := F.fz 8 (by omega) (m * 2 + 1)
      have F1 := F.setBridge m v u
      have s1 : Stp own w own1 ((wr.setCell ⟨K 8, m * 2, none⟩ (iv v)).setCell ⟨K 8, m * 2 + 1, none⟩ (iv u)) := (s.set _ _ (F.owns 8 (by omega))).set _ _ (F.owns 8 (by omega))
      simp only [iv] at F1 s1
      have Q2 := Lib.hid q2
      have Q4 := Lib.hid q4
      have Q7 := Lib.hid q7
      have Q11 := Lib.hid q11
      have T1 := Lib.hid t1
      have T2 := Lib.hid t2
      have T3 := Lib.hid t3
      have T4 := Lib.hid t4
      have T6 := Lib.hid t6
      have T7 := Lib.hid t7
      have T8 := Lib.hid t8
      have NN := Lib.hid N
      clear q2 q3 q4 q6 q7 q9 q10 q11 t1 t2 t3 t4 t5 t6 t7 t8 t9 N g3 hne
      go_upto_region 6 with (fail)
      generalize (wr.setCell ⟨K 8, m * 2, none⟩ (.int .i64 (v : Int))).setCell ⟨K 8, m * 2 + 1, none⟩ (.int .i64 (u : Int)) = w3 at F1 s1 ⊢
      clear g1 g2 g4 g5 g6 g7 g8 z1 z2 F s
      have g1 := F1.hd 5 (by omega)
      obtain ⟨y, g2⟩ := F1.gOdd q5
      have hwl2 : (S.wait ++ matesOf mate don).length ≤ 1000000 := by
        have h1 : (matesOf mate don).length ≤ don.length := List.length_filterMap_le _ _
        have h2 : xs.length = don.length + (rest.length + 1) := by rw [HX.out]; simp
        simp only [List.length_append]; omega
      go_wp2_with fail
      refine (raise_spec (l := 2) F1 hwl2 q5).mono ?_
      rintro e w4 ⟨rfl, own4, F4, s4⟩
      rw [FS.raise_odd (by exact Q7.out)] at F4
      simp only at F4
      clear g1 g2 hwl2
      go_upto_region 7 with (fail)
      have g1 := F4.hd 6 (by omega)
      have g2 := F4.gPred q5
      simp only at g2
      go_wp2_with fail
      refine (base_spec hn F4 U q8).mono ?_
      rintro e w5 ⟨rfl, up5, F5, U5, fr5⟩
      simp only [iv]
      rw [T4.out, T6.out]
      go_upto_region 8 with (fail)
      go_wp2_with fail
      refine (unite_spec hn F5 U5 q1 q5).mono ?_
      rintro e w6 ⟨rfl, up6, F6, U6, fr6⟩
      go_upto_region 9 with (fail)
      clear g1 g2
      have g1 := F6.hd 6 (by omega)
      have g2 := F6.gPred q5
      simp only at g2
      go_wp2_with fail
      refine (unite_spec hn F6 U6 q5 q8).mono ?_
      rintro e w7 ⟨rfl, up7, F7, U7, fr7⟩
      clear g1 g2
      go_wp2_with fail
      rw [T1.out, T2.out, T4.out] at F7 U7
      simp only [if_neg T7.out, if_neg T3.out] at F7 U7
      have ew : S.wait ++ matesOf mate don ++ [m] = S.wait ++ matesOf mate (don ++ [cur]) := by simp [matesOf, List.filterMap_append, Q4.out]
      rw [ew] at F7
      go_roundg rest.length
      case measure => rw [HG.out]; simp
      case rel =>
        exact ⟨don ++ [cur], rest, rest.headD b, own4, _, _, up7, _, _, by rw [HX.out]; simp, rfl, by simp, rfl, F7, U7,
          (s1.trans s4).trans ⟨(fr5.step fr6).step fr7, fun _ h => .inl h⟩, NN.out⟩
end Gar

namespace Gar
open Go Go.RowKit Go.Proofs
set_option maxRecDepth 100000
set_option maxHeartbeats 1600000
variable {w : World} {own : Nat → Prop} {K : Nat → Nat} {n : Nat} {adj : Nat → Nat → Prop} {mate : Nat → Option Nat} {S : FS} {rep : Nat → Nat}

/-- The path that an edge between two trees makes. -/
def APath (n : Nat) (adj : Nat → Nat → Prop) (mate : Nat → Option Nat) (S : FS) (v u : Nat) (p : List Nat) (r s : Nat) : Prop :=
  ∃ lv lw, p = (lv ++ [r]).reverse ++ (lw ++ [s]) ∧ S.root v = some r ∧ S.root u = some s ∧ mate r = none ∧ mate s = none ∧ r ≠ s ∧ r < n ∧ s < n ∧ Alt adj mate (lv ++ [r]) ∧ Alt adj mate (lw ++ [s]) ∧
    (lv ++ [r]).head? = some v ∧ (lw ++ [s]).head? = some u ∧ p.Nodup ∧ (∀ t ∈ p, t < n ∧ (S.root t = some r ∨ S.root t = some s))

def JoinPath (w : World) (own : Nat → Prop) (K : Nat → Nat) (n : Nat) (adj : Nat → Nat → Prop) (mate : Nat → Option Nat) (S : FS) (v u : Nat) (e : Ending) (w' : World) : Prop :=
  ∃ p r s A c, APath n adj mate S v u p r s ∧ e = .returned (.slice A p.length c) ∧ Ow w' 1 A p.length c (p.map iv) ∧ (∀ b, InA A b → w.heap.size ≤ b) ∧
    FM w' own K n mate { S with gone := fun t => if t = s then true else if t = r then true else S.gone t } ∧ Fr own w w'

theorem joinPath_spec (hn : n ≤ 1000000) (G : Gr n adj) (M : Mat n adj mate) (hF : FM w own K n mate S) (hK : FOk n adj mate S rep) {v u : Nat} (hv : v < n) (ho : S.outer v = true) (hu : u < n) (huo : S.outer u = true) (hne : S.root v ≠ S.root u) :
    Calls Try.prog 71 #[.pointer (some ⟨K 13, 0, none⟩), iv v, iv u] w (JoinPath w own K n adj mate S v u) := by
  obtain ⟨ord, I⟩ := hK.inv
  obtain ⟨r, s, lv, lw, p1, p2, p3, p4, p5, p6, p7, p8, p9, p10, p11, p12, p13, p14, p15, p16⟩ := I.augments G M hv ho hu huo hne
  have p1' : S.root v = some r := p1
  have p2' : S.root u = some s := p2
  have hAP : APath n adj mate S v u ((lv ++ [r]).reverse ++ (lw ++ [s])) r s := ⟨lv, lw, rfl, p1, p2, p3, p4, p5, p6, p7, p10, p11, p12, p13, p14, fun t ht => by
    rcases List.mem_append.1 ht with h | h
    · have := p15 t (List.mem_reverse.1 h); exact ⟨this.1, .inl this.2⟩
    · have := p16 t h; exact ⟨this.1, .inr this.2⟩⟩
  obtain ⟨i0, hi, hz0, hz1, hz2⟩ := info_parts info_int
  have a7 := hF.hd 7 (by omega)
  have b7 := hF.gRoot hv
  have c7 := hF.gRoot hu
  rw [p1'] at b7; rw [p2'] at c7
  simp only [ev] at b7 c7
  have e0 : (((r : Nat) : Int) != ((s : Nat) : Int)) = true := by simp; omega
  have hlen : ((lv ++ [r]).reverse ++ (lw ++ [s])).length ≤ n := nodup_le p14 fun t ht => (by
    rcases List.mem_append.1 ht with h | h
    · exact (p15 t (List.mem_reverse.1 h)).1
    · exact (p16 t h).1)
  have hl1 : (lv ++ [r]).length ≤ 1000000 := by simp at hlen ⊢; omega
  have hl2 : (lw ++ [s]).length ≤ 1000000 := by simp at hlen ⊢; omega
  have hl3 : (lv ++ [r]).length + (lw ++ [s]).length ≤ 1000000 := by simp at hlen ⊢; omega
  have AP := Lib.hid hAP
  have P8 := Lib.hid p8
  have P9 := Lib.hid p9
  have P15 := Lib.hid p15
  have P16 := Lib.hid p16
  have R1 := Lib.hid p1'
  have R2 := Lib.hid p2'
  have NE := Lib.hid p5
  generalize lv ++ [r] = l1 at *
  generalize lw ++ [s] = l2 at *
  clear p1 p2 p3 p4 p5 p8 p9 p10 p11 p12 p13 p14 p15 p16 hAP hne p1' p2' I hlen
  simp only [iv]
  go_enter Try.func71, Try.ntmps71
  go_wp2_with fail
  go_quiet (fail)
  go_upto_region 2 with (fail)
  have hFq := hF.drewN nq
  have sq : Fr own w (w.drewN nq) := (Fr.refl own w).drewN nq
  generalize w.drewN nq = w1 at hFq sq ⊢
  clear a7 b7 c7
  have a7 := hFq.hd 7 (by omega)
  have b7 := hFq.gRoot hv
  rw [R1.out] at b7; simp only [ev] at b7
  go_wp2_with fail
  refine (way_spec hn _ _ v r l1 (Nat.le_refl _) hl1 hFq P8.out (fun t ht => (P15.out t ht).1) p6).mono ?_
  rintro e w2 ⟨A2, c2, rfl, hO2, hA2, fr2⟩
  go_wp2_with fail
  refine (turned_spec hO2 hl1).mono ?_
  rintro e w3 ⟨rfl, hO3, fr3⟩
  go_upto_region 3 with (fail)
  have fr13 : Fr No w1 w3 := fr2.new fr3 (fun b hb => hA2 b hb)
  have hF3 := hFq.frNo fr13
  clear a7 b7
  have a7 := hF3.hd 7 (by omega)
  have c7 := hF3.gRoot hu
  rw [R2.out] at c7; simp only [ev] at c7
  go_wp2_with fail
  refine (way_spec hn _ _ u s l2 (Nat.le_refl _) hl2 hF3 P9.out (fun t ht => (P16.out t ht).1) p7).mono ?_
  rintro e w4 ⟨A4, c4, rfl, hO4, hA4, fr4⟩
  have hO34 := hO3.fr fr4 (fun _ _ => id)
  go_upto_region 4 with (at_builtin; refine wpList_append_ow rfl (.tmp 35) (.tmp 45) 22 rfl 3 i0 (.int .i64 0) 1 8 Try.underlying22 hi hz0 hz1 hz2 rfl (by decide) rfl hO34 rfl hO4.rd (iv_one _) (by omega) (by simp only [maxLen]; omega) ?_; intro A5 c5 w5 hO5 fr5 hA5)
  have fr45 : Fr No w1 w5 := (fr13.step fr4).new fr5 (fun b hb => hA2 b hb)
  have hA5' : ∀ b, InA A5 b → w1.heap.size ≤ b := fun b hb => by
    rcases hA5 b hb with h | h
    · exact hA2 b h
    · have h1 := fr13.size; have h2 := fr4.size; omega
  have hF5 := hFq.frNo fr45
  have hO5' : Ow w5 1 A5 (l1.length + l2.length) c5 ((l1.reverse ++ l2).map iv) := by simpa using hO5
  have k9 := hFq.lt 9 (by omega)
  clear a7 c7 hF3 hFq hO2 hO3 hO4 hO34 hO5 fr2 fr3 fr4 fr5 hA2 hA4 hA5 fr13 hF
  have a7 := hF5.hd 7 (by omega)
  have a9 := hF5.hd 9 (by omega)
  have b7 := hF5.gRoot hv
  have c7 := hF5.gRoot hu
  rw [R1.out] at b7; rw [R2.out] at c7; simp only [ev] at b7 c7
  have b9 := hF5.gGone p6
  have c9 := hF5.gGone p7
  have z1 := hF5.fz 9 (by omega) r
  have z2 := hF5.fz 9 (by omega) s
  have d1 := hF5.ne 9 13 (by omega) (by omega) (by omega)
  have d2 := hF5.ne 13 9 (by omega) (by omega) (by omega)
  have d3 := hF5.ne 9 7 (by omega) (by omega) (by omega)
  have d4 := hF5.ne 7 9 (by omega) (by omega) (by omega)
  have d5 : r ≠ s := NE.out
  have d6 : s ≠ r := Ne.symm NE.out
  have hF6 := ((hF5.setGone r true).setGone s true).drew
  have fr6 : Fr own w1 ((w5.setCell ⟨K 9, r, none⟩ (.bool true)).setCell ⟨K 9, s, none⟩ (.bool true)).drew := ((fr45.any.setCell _ _ fun _ => hF5.owns 9 (by omega)).setCell _ _ fun _ => hF5.owns 9 (by omega)).drew
  go_region_held3 (fun w' => w'.cell? ⟨K 13, 7, none⟩ = some (.slice (some ⟨K 7, 0, none⟩) n n) ∧ w'.cell? ⟨K 13, 9, none⟩ = some (.slice (some ⟨K 9, 0, none⟩) n n) ∧
      w'.cell? ⟨K 7, v, none⟩ = some (.int .i64 (r : Int)) ∧ w'.cell? ⟨K 7, u, none⟩ = some (.int .i64 (s : Int))) (simp [*, World.cell?_setCell_far, World.cell?_setCell_other]) (fail)
  have hO6 : Ow ((w5.setCell ⟨K 9, r, none⟩ (.bool true)).setCell ⟨K 9, s, none⟩ (.bool true)).drew 1 A5 (l1.length + l2.length) c5 ((l1.reverse ++ l2).map iv) :=
    hO5'.fr (S := fun b => b = K 9) (((Fr.refl (fun b => b = K 9) w5).setCell ⟨K 9, r, none⟩ (.bool true) fun _ => rfl).setCell ⟨K 9, s, none⟩ (.bool true) fun _ => rfl).drew fun b hb e => by have := hA5' b hb; omega
  generalize ((w5.setCell ⟨K 9, r, none⟩ (.bool true)).setCell ⟨K 9, s, none⟩ (.bool true)).drew = w6 at hF6 fr6 hO6 ⊢
  clear a7 a9 b7 c7 b9 c9 z1 z2 d1 d2 d3 d4 d5 d6 hO5' fr45 hF5
  go_wp2_with fail
  go_ret
  have hpl : (l1.reverse ++ l2).length = l1.length + l2.length := by simp
  exact ⟨l1.reverse ++ l2, r, s, A5, c5, AP.out, by rw [hpl]; rfl, by rw [hpl]; exact hO6, fun b hb => Nat.le_trans sq.size (hA5' b hb), hF6, sq.step fr6⟩

def JoinBlossom (w : World) (own : Nat → Prop) (K : Nat → Nat) (n : Nat) (adj : Nat → Nat → Prop) (mate : Nat → Option Nat) (S : FS) (rep : Nat → Nat) (v u : Nat) (e : Ending) (w' : World) : Prop :=
  e = .returned (.slice none 0 0) ∧ ∃ own' S' rep', FM w' own' K n mate S' ∧ UF n S'.up rep' ∧ Stp own w own' w' ∧ FOk n adj mate S' rep' ∧ Later n S rep S' rep' ∧ S'.base (rep' v) = S'.base (rep' u)

theorem joinBlossom_spec (hn2 : n ≤ 200000) (G : Gr n adj) (M : Mat n adj mate) (hF : FM w own K n mate S) (hU : UF n S.up rep) (hK : FOk n adj mate S rep) {v u : Nat} (hv : v < n) (ho : S.outer v = true) (hu : u < n) (huo : S.outer u = true)
    (hvu : adj v u) (heq : S.root v = S.root u) (hne : S.base (rep v) ≠ S.base (rep u)) :
    Calls Try.prog 71 #[.pointer (some ⟨K 13, 0, none⟩), iv v, iv u] w (JoinBlossom w own K n adj mate S rep v u) := by
  have hn : n ≤ 1000000 := by omega
  obtain ⟨ord, I⟩ := hK.inv
  have hbv : IsBase n (S.st rep) (S.base (rep v)) := IsBase.of I hv ho
  have hbu : IsBase n (S.st rep) (S.base (rep u)) := IsBase.of I hu huo
  obtain ⟨ca, r, ua, hr, hra⟩ := Up.toRoot M I _ _ (Nat.le_refl _) hbv
  obtain ⟨cb, r', ub, hr', hrb⟩ := Up.toRoot M I _ _ (Nat.le_refl _) hbu
  have hrr : r' = r := by
    have h1 := (I.i9 v hv ho).2
    have h2 := (I.i9 u hu huo).2
    have h3 : (S.st rep).root v = (S.st rep).root u := heq
    change (S.st rep).root (S.base (rep v)) = _ at h1
    change (S.st rep).root (S.base (rep u)) = _ at h2
    rw [hra] at h1; rw [hrb] at h2
    rw [← h1, ← h2] at h3
    injection h3 with h3; exact h3.symm
  subst hrr
  have facts : ∀ {a : Nat} {xs : List Nat}, IsBase n (S.st rep) a → Up mate (S.st rep) a xs r' → (∀ x ∈ xs ++ [r'], x < n ∧ ∀ m, mate x = some m → m < n ∧ S.pred m < n) ∧ (xs ++ [r']).Nodup := by
    intro a xs hb hup
    obtain ⟨b1, b2, b3, b4⟩ := hup.bases M I hb
    obtain ⟨n1, n2⟩ := hup.nodup M I hb
    refine ⟨fun x hx => ?_, List.nodup_append.2 ⟨n1, by simp, fun x hx y hy e => by simp at hy; subst hy; subst e; exact n2 hx⟩⟩
    rcases List.mem_append.1 hx with hx | hx
    · have hbx := (b4 x hx).1
      exact ⟨hbx.1, fun m hm => by have := hbx.above M I hm; exact ⟨this.1, this.2.2.2.2.2.1⟩⟩
    · simp at hx; subst hx
      exact ⟨b1.1, fun m hm => by rw [hr] at hm; cases hm⟩
  obtain ⟨fa1, fa2⟩ := facts hbv ua
  obtain ⟨fb1, fb2⟩ := facts hbu ub
  have hca := Ch.of_up ua hr
  have hcb := Ch.of_up ub hr
  obtain ⟨k7, hk7⟩ : ∃ k, ev (S.root v) = .int .i64 k := by cases S.root v <;> exact ⟨_, rfl⟩
  have a7 := hF.hd 7 (by omega)
  have b7 := hF.gRoot hv
  have c7 := hF.gRoot hu
  rw [← heq] at c7
  rw [hk7] at b7 c7
  have e0 : (k7 != k7) = false := by simp
  have hwl := hK.wait_le
  have htl := hK.turn_le
  have ht0 := hK.t0
  have HQ := Lib.hid heq
  have NE := Lib.hid hne
  have HU := Lib.hid hU
  have KK := Lib.hid hK
  have F1 := Lib.hid fa1
  have F2 := Lib.hid fb1
  have C1 := Lib.hid hca
  have C2 := Lib.hid hcb
  clear heq hne hU hK fa1 fb1 hca hcb hk7 ua ub hr hr' hra hrb I facts
  simp only [iv]
  go_enter Try.func71, Try.ntmps71
  go_wp2_with fail
  go_quiet (fail)
  go_upto_region 6 with (fail)
  have hFq := hF.drewN nq
  have sq : Fr own w (w.drewN nq) := (Fr.refl own w).drewN nq
  generalize w.drewN nq = w1 at hFq sq ⊢
  clear a7 b7 c7 e0 hF
  go_wp2_with fail
  refine (base_spec hn hFq HU.out hv).mono ?_
  rintro e w2 ⟨rfl, up2, hF2, hU2, fr2⟩
  simp only [iv]
  go_wp2_with fail
  refine (base_spec hn hF2 hU2 hu).mono ?_
  rintro e w3 ⟨rfl, up3, hF3, hU3, fr3⟩
  simp only [iv]
  go_wp2_with fail
  refine (meet_spec hn hF3 hU3 C1.out C2.out F1.out F2.out fa2 fb2 KK.out.mks ht0 (by show S.turn ≤ 1000000; omega)).mono ?_
  rintro e w4 ⟨z, mk', up4, xs, ys, rfl, hz, hF4, hU4, fr4, hmk, hx, hy, hd⟩
  simp only [iv]
  have P := KK.out.pre M hv ho hu hx
  have P2 := KK.out.pre M hu huo hv hy
  have HD := Lib.hid hd
  have HX := Lib.hid hx
  have HY := Lib.hid hy
  have HM := Lib.hid hmk
  clear hd hx hy hmk
  have hxl : xs.length ≤ n := nodup_le P.nd fun x hx => (P.hx x hx).1
  have hyl : ys.length ≤ n := nodup_le P2.nd fun x hx => (P2.hx x hx).1
  go_upto_region 7 with (fail)
  go_wp2_with fail
  refine (shrink_spec (S := { S with up := up4, mark := mk', turn := S.turn + 1 }) hn hF4 hU4 (xs := xs) ⟨P.hv, P.hu, P.hb, P.bb, P.up, P.hx, P.nd, P.nb, P.bo, P.cls, P.inj⟩ (by show S.wait.length + xs.length ≤ 1000000; omega)).mono ?_
  rintro e w5 ⟨rfl, own5, o5, br5, up5, base5, rep5, hF5, hU5, s5, M5⟩
  go_upto_region 8 with (fail)
  have PM : ShrinkPre n mate { S with up := up4, mark := mk', turn := S.turn + 1 } rep v u z xs := ⟨P.hv, P.hu, P.hb, P.bb, P.up, P.hx, P.nd, P.nb, P.bo, P.cls, P.inj⟩
  have PM2 : ShrinkPre n mate { S with up := up4, mark := mk', turn := S.turn + 1 } rep u v z ys := ⟨P2.hv, P2.hu, P2.hb, P2.bb, P2.up, P2.hx, P2.nd, P2.nb, P2.bo, P2.cls, P2.inj⟩
  have PS := ShrinkPre.second (up' := up5) (wt := S.wait ++ matesOf mate xs) PM PM2 HD.out M5 huo
  have hml : (matesOf mate xs).length ≤ xs.length := List.length_filterMap_le _ _
  go_wp2_with fail
  refine (shrink_spec hn hF5 hU5 PS (by show (S.wait ++ matesOf mate xs).length + ys.length ≤ 1000000; simp only [List.length_append]; omega)).mono ?_
  rintro e w6 ⟨rfl, own6, o6, br6, up6, base6, rep6, hF6, hU6, s6, M6⟩
  obtain ⟨K1, K2, K3⟩ := KK.out.blossom G M hv ho hu huo hvu NE.out HX.out HY.out HD.out HM.out (mk1 := mk') (tn1 := S.turn + 1) (up1 := up5) (wt := S.wait ++ matesOf mate xs) (up2 := up6)
    ⟨M5.l1, M5.l2, M5.l3, M5.l4, M5.o, M5.b1, M5.b2⟩ ⟨M6.l1, M6.l2, M6.l3, M6.l4, M6.o, M6.b1, M6.b2⟩
  have st : Stp own w own6 w6 := (Stp.mk (((sq.step fr2).step fr3).step fr4) fun _ h => .inl h).trans (s5.trans s6)
  go_wp2_with fail
  go_ret
  exact ⟨rfl, own6, _, rep6, hF6, hU6, st, K1, K2, K3⟩
end Gar
