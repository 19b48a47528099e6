/-
  PROVED: lemmas of the claim; no condition beyond what each one states.
  Walks: the reference's Odd, Lack.
  Walks: mates.Right, of a matching.
  Walks: free, IndexFunc.
-/
import Derived.Test.YtohpjggnhnjgpaaPart17
import Derived.Test.YtohpjggnhnjgpaaPart2
import Derived.Test.YtohpjggnhnjgpaaPart8
import Derived.Test.YtohpjggnhnjgpaaPart11
import Derived.Test.YtohpjggnhnjgpaaPart1
import Derived.Test.YtohpjggnhnjgpaaPart3
set_option linter.unusedVariables false
set_option linter.unusedSimpArgs false

namespace Gar
open Go Go.RowKit Go.Proofs
set_option maxRecDepth 100000
set_option maxHeartbeats 1600000
variable {w : World} {n : Nat} {es : List (Nat × Nat)}

theorem Pieces.len_le {adj : Nat → Nat → Prop} {P : Nat → Prop} {L : List (List Nat)} (h : Pieces n adj P L) {l : List Nat} (hl : l ∈ L) : l.length ≤ n :=
  nodup_le (nodup_of_rises (h.rises l hl)) fun v hv => h.lt v (h.mem l hl v hv).1
theorem Pieces.count_le {adj : Nat → Nat → Prop} {P : Nat → Prop} {L : List (List Nat)} (h : Pieces n adj P L) : L.length ≤ n := by
  have h1 : (L.map fun l => l.headD 0).Nodup := nodup_of_rises h.heads
  have := nodup_le h1 (n := n) fun v hv => by
    obtain ⟨l, hl, rfl⟩ := List.mem_map.1 hv
    obtain ⟨u, t, rfl⟩ := h.ne l hl
    exact h.lt u (h.mem _ hl u (by simp)).1
  simpa using this

def sumOdd (L : List (List Nat)) : Nat := (L.map fun l => l.length % 2).sum
theorem sumOdd_le (L : List (List Nat)) : sumOdd L ≤ L.length := by
  unfold sumOdd
  induction L with
  | nil => simp
  | cons l L ih => simp only [List.map_cons, List.sum_cons, List.length_cons]; omega

def OddRel (w1 : World) (L : List (List Nat)) (g : Nat) (x x5 : Value) (wr : World) : Prop :=
  ∃ i : Nat, x = .int .i64 (i : Int) ∧ x5 = .int .i64 ((sumOdd (L.take i) : Nat) : Int) ∧ i ≤ L.length ∧ g = L.length - i ∧ w1 = wr

def OddPost (w : World) (n : Nat) (es : List (Nat × Nat)) (P : Nat → Prop) (e : Ending) (w' : World) : Prop :=
  ∃ L, Pieces n (adjOf es) P L ∧ e = .returned (.int .i64 ((sumOdd L : Nat) : Int)) ∧ Fr No w w'

theorem odd_spec {Ae Ao : Option Addr} {ce co : Nat} {out : List Nat} (hG : Good n es) (hR : Rd w 2 Ae es.length (cellsOf es)) (hol : out.length ≤ 1000000) (hout : Rd w 1 Ao out.length (out.map iv)) :
    Calls Try.prog 37 #[.agg #[.int .i64 (n : Int), .slice Ae es.length ce], .slice Ao out.length co] w (OddPost w n es (fun v => v < n ∧ v ∉ out)) := by
  have hn := hG.n_le
  have f1 : Fr No w (w.alloc (.cells #[.int .i64 (n : Int), .slice Ae es.length ce] 25)) := (Fr.refl _ _).alloc _
  have HG := Lib.hid hG
  have HR := Lib.hid (hR.fr f1 fun _ _ => id)
  have HOU := Lib.hid (hout.fr f1 fun _ _ => id)
  clear hR hG hout
  go_enter Try.func37, Try.ntmps37
  go_wp2_with fail
  refine (without_spec HG.out HR.out hol HOU.out).mono ?_
  rintro e w2 ⟨L, A, c, vals, hP, rfl, hO, hlens, hfr2, _⟩
  have f2 := f1.step hfr2
  have hLn := hP.count_le
  have hpl : ∀ l ∈ L, l.length ≤ n := fun l hl => hP.len_le hl
  have HP := Lib.hid hP
  have HX := Lib.hid (show Ow w2 1 A L.length c vals ∧ Lens vals L ∧ ∀ l ∈ L, l.length ≤ n from ⟨hO, hlens, hpl⟩)
  clear hP hO hlens hpl hfr2 f1
  go_wp2_with fail
  go_loopg [7, 5] L.length (OddRel w2 L)
  case atStart => exact ⟨0, rfl, rfl, by omega, rfl, rfl⟩
  case round =>
    obtain ⟨i, rfl, rfl, hi, hg, rfl⟩ := hrel
    have HG2 := Lib.hid hg
    clear hg
    by_cases hlt : i < L.length
    · obtain ⟨A', c', hv⟩ := HX.out.2.1.2 i L[i] (List.getElem?_eq_getElem hlt)
      obtain ⟨b, o, rfl⟩ := HX.out.1.some (by omega)
      have h1 := (HX.out.1.cellAt hv).1
      have hs : sumOdd (L.take (i + 1)) = sumOdd (L.take i) + L[i].length % 2 := by
        unfold sumOdd; rw [List.take_succ_eq_append_getElem hlt, List.map_append, List.sum_append]; simp only [List.map_cons, List.map_nil, List.sum_cons, List.sum_nil, Nat.add_zero]
      have hle := HX.out.2.2 L[i] (List.getElem_mem hlt)
      have hsl := sumOdd_le (L.take i)
      rw [List.length_take] at hsl
      have HS := Lib.hid hs
      have hii : (i : Int) < (L.length : Int) := by omega
      clear hv hs
      generalize L[i].length = y at h1 HS hle
      generalize sumOdd (L.take i) = s at HS hsl ⊢
      have hmod : (y : Int) % 2 = ((y % 2 : Nat) : Int) := by omega
      have hm2 : y % 2 < 2 := Nat.mod_lt _ (by omega)
      have HMOD := Lib.hid hmod
      clear hmod
      go_wp2_with fail
      go_roundg (L.length - (i + 1))
      case measure => rw [HG2.out]; omega
      case rel => exact ⟨i + 1, rfl, by rw [HS.out]; first | (congr 1; done) | (congr 1; have := HMOD.out; omega), by omega, rfl, rfl⟩
    · have : i = L.length := by omega
      subst this
      rw [List.take_length]
      go_wp2_with fail
      go_ret
      exact ⟨L, HP.out, rfl, f2⟩

def LkRel (w1 : World) (m : Nat) (g : Nat) (x : Value) (wr : World) : Prop := ∃ i : Nat, x = .int .i64 (i : Int) ∧ i ≤ m ∧ g = m - i ∧ Fr No w1 wr

def LackPost (w : World) (n : Nat) (es : List (Nat × Nat)) (b : List Nat) (e : Ending) (w' : World) : Prop :=
  ∃ L, Pieces n (adjOf es) (fun v => v < n ∧ v ∉ b) L ∧ e = .returned (.tuple #[.int .i64 (((sumOdd L : Nat) : Int) - (b.length : Int)), .int .i64 0]) ∧ Fr No w w'

theorem lack_spec {Ae Ao : Option Addr} {ce co : Nat} {b : List Nat} (hG : Good n es) (hR : Rd w 2 Ae es.length (cellsOf es)) (hnd : b.Nodup) (hbn : ∀ v ∈ b, v < n) (hb : Rd w 1 Ao b.length (b.map iv)) (hco : b.length ≤ co) :
    Calls Try.prog 17 #[.agg #[.int .i64 (n : Int), .slice Ae es.length ce], .slice Ao b.length co] w (LackPost w n es b) := by
  have hn := hG.n_le
  have hbl : b.length ≤ n := nodup_le hnd hbn
  have f1 : Fr No w (w.alloc (.cells #[.int .i64 (n : Int), .slice Ae es.length ce] 25)) := (Fr.refl _ _).alloc _
  have cg := Cs.new w 25 #[.int .i64 (n : Int), .slice Ae es.length ce]
  have g0 := cg.cell 0
  have g1 := cg.cell 1
  simp only [List.getElem?_toArray, List.getElem?_cons_zero, List.getElem?_cons_succ] at g0 g1
  have HG := Lib.hid hG
  have HR := Lib.hid (hR.fr f1 fun _ _ => id)
  have HB := Lib.hid (hb.fr f1 fun _ _ => id)
  have HND := Lib.hid hnd
  have HBN := Lib.hid hbn
  clear hR hG hb hnd hbn cg
  go_enter Try.func17, Try.ntmps17
  go_upto_region 1 with (fail)
  generalize w.alloc (.cells #[.int .i64 (n : Int), .slice Ae es.length ce] 25) = w1 at f1 g0 g1 HR HB ⊢
  generalize w.heap.size = b2 at g0 g1 ⊢
  go_wp2_with fail
  refine (right2_spec HG.out HR.out).mono ?_
  rintro e w2 ⟨rfl, hfr2⟩
  have g0 := hfr2.cell g0 id
  have g1 := hfr2.cell g1 id
  have f2 := f1.step hfr2
  have HR2 := Lib.hid (HR.out.fr hfr2 fun _ _ => id)
  have HB2 := Lib.hid (HB.out.fr hfr2 fun _ _ => id)
  clear hfr2 f1
  go_wp2_with fail
  go_loopg [6] b.length (LkRel w2 b.length)
  case atStart => exact ⟨0, rfl, by omega, rfl, Fr.refl _ _⟩
  case round =>
    obtain ⟨i, rfl, hi, hg, hfr⟩ := hrel
    have HG2 := Lib.hid hg
    have q0 := hfr.cell g0 id
    have q1 := hfr.cell g1 id
    clear hg
    by_cases hlt : i < b.length
    · obtain ⟨bb, ob, rfl, hc⟩ := (HB2.out.fr hfr fun _ _ => id).at_ (by rw [List.length_map]; omega)
      have h1 := hc i (iv b[i]) (by simp [hlt])
      have hbi := HBN.out _ (List.getElem_mem hlt)
      have hii : (i : Int) < (b.length : Int) := by omega
      clear hc
      generalize b[i] = y at h1 hbi
      simp only [iv] at h1
      go_wp2_with fail
      go_region_held3 (fun w' => w'.cell? ⟨b2, 0, none⟩ = some (.int .i64 (n : Int)) ∧ w'.cell? ⟨b2, 1, none⟩ = some (.slice Ae es.length ce) ∧ w'.cell? ⟨bb, ob + i, none⟩ = some (.int .i64 (y : Int)))
        (first | (simp [*]; done) | (exact ⟨s1, s2, s3⟩))
        ((go_at_call 36; refine (is_spec hbi).mono ?_; rintro e w5 ⟨rfl, hfr5⟩; have d5 : Fr No wr w5 := (Fr.refl No wr).drew.step hfr5; have s1 := d5.cell q0 id; have s2 := d5.cell q1 id; have s3 := d5.cell h1 id))
      clear s1 s2 s3 q0 q1 h1
      go_wp2_with fail
      go_roundg (b.length - (i + 1))
      case measure => rw [HG2.out]; omega
      case rel => exact ⟨i + 1, rfl, by omega, rfl, hfr.step d5⟩
    · have : i = b.length := by omega
      subst this
      go_wp2_with fail
      go_loopg [7] b.length (LkRel w2 b.length)
      case atStart => exact ⟨0, rfl, by omega, rfl, hfr⟩
      case round =>
        clear hfr q0 q1
        obtain ⟨i, rfl, hi, hg, hfr⟩ := hrel
        have HG2 := Lib.hid hg
        have q0 := hfr.cell g0 id
        have q1 := hfr.cell g1 id
        clear hg
        by_cases hlt : i < b.length
        · have hrd := HB2.out.fr hfr fun _ _ => id
          obtain ⟨bb, ob, rfl, hc⟩ := hrd.at_ (by rw [List.length_map]; omega)
          have h1 := hc i (iv b[i]) (by simp [hlt])
          have hii : (i : Int) < (b.length : Int) := by omega
          have hicap : (i : Int) ≤ (co : Int) := by omega
          have htl : (b.take i).length = i := by rw [List.length_take]; omega
          have htk : Rd wr 1 (some ⟨bb, ob, none⟩) (b.take i).length ((b.take i).map iv) := by
            have := hrd.take (k := i) (by omega)
            rw [htl, List.map_take]; simpa using this
          have hnot : b[i] ∉ b.take i := by
            intro hm
            obtain ⟨j, hj, e⟩ := List.getElem_of_mem hm
            rw [List.getElem_take] at e
            have := (List.pairwise_iff_getElem.1 HND.out) j i (by rw [htl] at hj; omega) hlt (by rw [htl] at hj; exact hj)
            exact this e
          have HTK := Lib.hid htk
          have HTL := Lib.hid htl
          have HD := Lib.hid (decide_eq_false hnot)
          clear hc hrd htk htl hnot
          generalize b[i] = y at h1 HD
          simp only [iv] at h1
          go_wp2_with fail
          go_region_held3 (fun w' => w'.cell? ⟨bb, ob + i, none⟩ = some (.int .i64 (y : Int)))
            (first | (simp [*]; done) | (exact s1))
            ((go_at_call 14; have hin := in_spec (w := wr.drew) (v := y) (c := co) (by rw [HTL.out]; omega) (HTK.out.fr ((Fr.refl No _).drew) fun _ _ => id); rw [HTL.out] at hin; refine hin.mono ?_; rintro e w5 ⟨rfl, rfl⟩; rw [HD.out]; have s1 := cell_drew h1))
          clear s1 q0 q1 h1
          go_wp2_with fail
          go_roundg (b.length - (i + 1))
          case measure => rw [HG2.out]; omega
          case rel => exact ⟨i + 1, rfl, by omega, rfl, hfr.drew⟩
        · have : i = b.length := by omega
          subst this
          have HB5 := Lib.hid (HB2.out.fr hfr fun _ _ => id)
          have HR5 := Lib.hid (HR2.out.fr hfr fun _ _ => id)
          have hfw := f2.step hfr
          clear hfr
          go_wp2_with fail
          refine (odd_spec HG.out HR5.out (by omega) HB5.out).mono ?_
          rintro e w6 ⟨L, hP, rfl, hfr6⟩
          have HP := Lib.hid hP
          have hs := sumOdd_le L
          have hc := hP.count_le
          have hf6 := hfw.step hfr6
          generalize hsm : sumOdd L = s at hs ⊢
          have HSM := Lib.hid hsm
          clear hP hfr6 q0 q1 hsm
          go_wp2_with fail
          go_ret2
          exact ⟨L, HP.out, by rw [HSM.out]; rfl, hf6⟩
end Gar

namespace Gar
open Go Go.RowKit Go.Proofs
set_option maxRecDepth 100000
set_option maxHeartbeats 1600000
variable {w : World} {n : Nat} {es : List (Nat × Nat)}

/-- Behind so many edges: is the vertex an end of one that is the matching's? -/
noncomputable def Jn (es : List (Nat × Nat)) (f : Nat → Option Nat) (i v : Nat) : Bool := @decide (∃ e ∈ es.take i, f e.1 = some e.2 ∧ (v = e.1 ∨ v = e.2)) (Classical.propDecidable _)
noncomputable def jl (n : Nat) (es : List (Nat × Nat)) (f : Nat → Option Nat) (i : Nat) : List Value := (List.range n).map fun v => .bool (Jn es f i v)

theorem jl_get {f : Nat → Option Nat} {i v : Nat} (h : v < n) : (jl n es f i)[v]? = some (.bool (Jn es f i v)) := by simp [jl, h]
theorem Jn_zero {f : Nat → Option Nat} {v : Nat} : Jn es f 0 v = false := by simp [Jn]
theorem Jn_true {f : Nat → Option Nat} {i v : Nat} (h : ∃ e ∈ es.take i, f e.1 = some e.2 ∧ (v = e.1 ∨ v = e.2)) : Jn es f i v = true := @decide_eq_true _ (Classical.propDecidable _) h
theorem Jn_skip {f : Nat → Option Nat} {i : Nat} (h : i < es.length) (hn : f es[i].1 ≠ some es[i].2) : Jn es f (i + 1) = Jn es f i := by
  funext v
  unfold Jn
  rw [List.take_succ_eq_append_getElem h]
  congr 1
  apply propext
  constructor
  · rintro ⟨e, he, h1, h2⟩
    rcases List.mem_append.1 he with he | he
    · exact ⟨e, he, h1, h2⟩
    · simp at he; subst he; exact absurd h1 hn
  · rintro ⟨e, he, h1⟩; exact ⟨e, List.mem_append_left _ he, h1⟩
theorem jl_put {f : Nat → Option Nat} {i : Nat} (h : i < es.length) (hn : f es[i].1 = some es[i].2) : jl n es f (i + 1) = ((jl n es f i).set es[i].1 (.bool true)).set es[i].2 (.bool true) := by
  apply List.ext_getElem?
  intro v
  have key : Jn es f (i + 1) v = (decide (v = es[i].1) || decide (v = es[i].2) || Jn es f i v) := by
    unfold Jn
    rw [List.take_succ_eq_append_getElem h]
    rw [Bool.eq_iff_iff]
    simp only [decide_eq_true_eq, Bool.or_eq_true]
    constructor
    · rintro ⟨e, he, h1, h2⟩
      rcases List.mem_append.1 he with he | he
      · exact .inr ⟨e, he, h1, h2⟩
      · simp at he; subst he; exact .inl h2
    · rintro (h1 | ⟨e, he, h1⟩)
      · exact ⟨es[i], List.mem_append_right _ (by simp), hn, h1⟩
      · exact ⟨e, List.mem_append_left _ he, h1⟩
  rcases Nat.lt_or_ge v n with hv | hv
  · rw [jl_get hv, key, List.getElem?_set, List.getElem?_set, jl_get hv]
    have q1 : (v = es[i].1) = (es[i].1 = v) := propext eq_comm
    have q2 : (v = es[i].2) = (es[i].2 = v) := propext eq_comm
    simp only [q1, q2]
    by_cases e1 : es[i].1 = v <;> by_cases e2 : es[i].2 = v <;> simp [e1, e2, jl, hv]
  · rw [List.getElem?_eq_none (by simpa [jl] using hv), List.getElem?_eq_none (by simpa [jl] using hv)]

def MRRel (w1 : World) (n bj : Nat) (es : List (Nat × Nat)) (f : Nat → Option Nat) (g : Nat) (x : Value) (wr : World) : Prop :=
  ∃ i : Nat, x = .int .i64 (i : Int) ∧ i ≤ es.length ∧ g = es.length - i ∧ Ow wr 1 (some ⟨bj, 0, none⟩) n n (jl n es f i) ∧ Fr (fun x => x = bj) w1 wr
def MRRel2 (w1 : World) (n : Nat) (g : Nat) (x : Value) (wr : World) : Prop := ∃ i : Nat, x = .int .i64 (i : Int) ∧ i ≤ n ∧ g = n - i ∧ wr = w1

theorem mright_spec {Ae Am : Option Addr} {ce cm : Nat} {f : Nat → Option Nat} (hG : Good n es) (hR : Rd w 2 Ae es.length (cellsOf es)) (M : Mat n (adjOf es) f) (hO : Ow w 1 Am n cm (mv n f)) :
    Calls Try.prog 60 #[.agg #[.int .i64 (n : Int), .slice Ae es.length ce], .slice Am n cm] w (fun e w' => e = .returned (.bool true) ∧ Fr No w w') := by
  have hn := hG.n_le
  have hm := hG.m_le
  have f1 : Fr No w (w.alloc (.cells #[.int .i64 (n : Int), .slice Ae es.length ce] 25)) := (Fr.refl _ _).alloc _
  have cg := Cs.new w 25 #[.int .i64 (n : Int), .slice Ae es.length ce]
  have g0 := cg.cell 0
  have g1 := cg.cell 1
  simp only [List.getElem?_toArray, List.getElem?_cons_zero, List.getElem?_cons_succ] at g0 g1
  have hR1 := hR.fr f1 fun _ _ => id
  have hO1 := hO.fr f1 fun _ _ => id
  have HG := Lib.hid hG
  have HR := Lib.hid hR1
  have HO := Lib.hid hO1
  have HM := Lib.hid M
  clear cg hR hR1 hG hO hO1 M
  obtain ⟨i0, hi, hz0, hz1, hz2⟩ := info_parts info_bool
  go_enter Try.func60, Try.ntmps60
  go_upto_region 1 with (fail)
  generalize w.alloc (.cells #[.int .i64 (n : Int), .slice Ae es.length ce] 25) = w1 at f1 g0 g1 HR HO ⊢
  generalize w.heap.size = b1 at g0 g1 ⊢
  go_wp2_with fail
  refine (right_spec HG.out HR.out).mono ?_
  rintro e w2 ⟨rfl, hfr2⟩
  have g0 := hfr2.cell g0 id
  have g1 := hfr2.cell g1 id
  have f2 := f1.step hfr2
  have HR2 := Lib.hid (HR.out.fr hfr2 fun _ _ => id)
  have HO2 := Lib.hid (HO.out.fr hfr2 fun _ _ => id)
  have e0 : ((n : Int) != (n : Int)) = false := by simp
  clear hfr2 f1
  go_upto_region 4 with (at_make; refine wpList_make_ow rfl _ _ 96 rfl 4 i0 (.bool false) Try.underlying96 hi hz0 hz1 (by simp [Value.cells]) _ _ _ _ n rfl rfl rfl rfl (by rw [hz2]; omega) (by simp only [maxLen]; omega) ?_; intro bj w3 hbj hOj hfr3)
  have g1 := hfr3.cell g1 id
  have f3 := f2.step hfr3
  have HR3 := Lib.hid (HR2.out.fr hfr3 fun _ _ => id)
  have HO3 := Lib.hid (HO2.out.fr hfr3 fun _ _ => id)
  have hj0 : List.replicate n (Value.bool false) = jl n es f 0 := List.ext_getElem? fun v => by
    rw [List.getElem?_replicate]
    by_cases h : v < n
    · rw [if_pos h, jl_get h, Jn_zero]
    · rw [if_neg h, List.getElem?_eq_none (by simp [jl]; omega)]
  rw [hj0] at hOj
  have HJ := Lib.hid hOj
  have hjm : ∀ x, InA Am x → x < bj := fun x hx => Nat.lt_of_lt_of_le (HO2.out.lt x hx) hbj
  have hje : ∀ x, 0 < es.length → InA Ae x → x < bj := fun x h hx => Nat.lt_of_lt_of_le (HR2.out.lt (by rw [cellsOf_len]; omega) x hx) hbj
  have HJM := Lib.hid hjm
  have HJE := Lib.hid hje
  have hsb : w.heap.size ≤ bj := Nat.le_trans f2.size hbj
  clear hj0 hOj hjm hje hfr3 e0 f2 g0
  go_wp2_with fail
  go_loopg [26] es.length (MRRel w3 n bj es f)
  case atStart => exact ⟨0, rfl, by omega, by omega, HJ.out, Fr.refl _ _⟩
  case round =>
    clear HJ
    obtain ⟨i, rfl, hi', hg, hO, hfr⟩ := hrel
    have HGK := Lib.hid hg
    clear hg
    by_cases hlt : i < es.length
    · obtain ⟨be, oe, rfl, hce⟩ := (HR3.out.fr hfr fun b hb e => by have := HJE.out b (by omega) hb; omega).at_ (by rw [cellsOf_len]; omega)
      obtain ⟨k1, k2⟩ := cellsOf_get hlt
      have p1 := hce _ _ k1
      have p2 := hce _ _ k2
      obtain ⟨m1, m2⟩ := HG.out.mem _ (List.getElem_mem hlt)
      have hOm := HO3.out.fr hfr fun b hb e => by have := HJM.out b hb; omega
      obtain ⟨bm, om, rfl⟩ := hOm.some (by omega)
      have c1 := (hOm.cellAt (mv_get (f := f) (show es[i].1 < n by omega))).1
      have c2 := (hOm.cellAt (mv_get (f := f) m2)).1
      have m3 : es[i].1 < n := by omega
      clear hce k1 k2 hOm
      have hie : (i : Int) < (es.length : Int) := by omega
      by_cases hf : f es[i].1 = some es[i].2
      · have hput := jl_put (n := n) hlt hf
        have c2' := HM.out.sym _ _ hf
        rw [hf] at c1
        rw [c2'] at c2
        have HP := Lib.hid hput
        clear hput hf c2'
        generalize es[i] = e at p1 p2 m1 m2 m3 c1 c2 HP
        simp only [iv, ev] at p1 p2 c1 c2
        rw [← Nat.add_assoc] at p2
        go_upto_region 7 with (fail)
        have f5 : Fr No wr (wr.alloc (.cells #[.int .i64 (e.1 : Int), .int .i64 (e.2 : Int)] 56)) := (Fr.refl _ _).alloc _
        have c5 := Cs.new wr 56 #[.int .i64 (e.1 : Int), .int .i64 (e.2 : Int)]
        have r1 := c5.cell 0
        have r2 := c5.cell 1
        have hbj5 : bj ≠ wr.heap.size := fun h => by have := hO.lt bj ⟨_, rfl, rfl⟩; omega
        generalize wr.alloc (.cells #[.int .i64 (e.1 : Int), .int .i64 (e.2 : Int)] 56) = w5 at f5 r1 r2 ⊢
        generalize wr.heap.size = b5 at r1 r2 hbj5 ⊢
        simp only [List.getElem?_toArray, List.getElem?_cons_zero, List.getElem?_cons_succ] at r1 r2
        have c1 := f5.cell c1 id
        have c2 := f5.cell c2 id
        have hO5 := hO.fr f5 fun _ _ => id
        have hfr5 : Fr (fun x => x = bj) w3 w5 := hfr.step f5.any
        have h1i : (e.1 : Int) < (n : Int) := by omega
        have h2i : (e.2 : Int) < (n : Int) := by omega
        clear p1 p2 c5 hO hfr f5
        have HO5 := Lib.hid hO5
        clear hO5
        go_quiet (fail)
        have hq : Fr No w5 (w5.drewN nq) := (Fr.refl No w5).drewN nq
        have r1 := hq.cell r1 id
        have r2 := hq.cell r2 id
        have hOq := HO5.out.fr hq fun _ _ => id
        have hfrq : Fr (fun x => x = bj) w3 (w5.drewN nq) := hfr5.step hq.any
        generalize w5.drewN nq = wq at r1 r2 hOq hfrq ⊢
        obtain ⟨ca, za⟩ := hOq.cellAt (jl_get (f := f) (i := i) (es := es) m3)
        obtain ⟨cb, zb⟩ := hOq.cellAt (jl_get (f := f) (i := i) (es := es) m2)
        have hO9 := (hOq.set e.1 (.bool true)).set e.2 (.bool true)
        rw [← HP.out] at hO9
        have hfr9 : Fr (fun x => x = bj) w3 ((wq.setCell ⟨bj, 0 + e.1, none⟩ (.bool true)).setCell ⟨bj, 0 + e.2, none⟩ (.bool true)).drew := ((hfrq.setCell ⟨bj, 0 + e.1, none⟩ _ fun _ => rfl).setCell ⟨bj, 0 + e.2, none⟩ _ fun _ => rfl).drew
        have hO10 := hO9.fr (S := No) ((Fr.refl _ _).drew) fun _ _ => id
        generalize Jn es f i e.1 = va at ca
        generalize Jn es f i e.2 = vb at cb
        simp only [Nat.zero_add] at ca za cb zb hfr9 hO10
        have hne : e.1 ≠ e.2 := by omega
        have hne' : e.2 ≠ e.1 := by omega
        have HO10 := Lib.hid hO10
        clear hO9 hOq hfrq c1 c2 hfr5 HO5 hO10
        go_wp2_with fail
        go_region_held3 (fun w' => w'.cell? ⟨b5, 0, none⟩ = some (.int .i64 (e.1 : Int)) ∧ w'.cell? ⟨b5, 1, none⟩ = some (.int .i64 (e.2 : Int))) (simp [*, World.cell?_setCell_far, World.cell?_setCell_other]) (fail)
        have HO11 := HO10
        generalize ((wq.setCell ⟨bj, e.1, none⟩ (.bool true)).setCell ⟨bj, e.2, none⟩ (.bool true)).drew = w9 at HO11 HO10 hfr9 ⊢
        clear ca cb za zb r1 r2 hne hne' hbj5
        go_wp2_with fail
        go_roundg (es.length - (i + 1))
        case measure => rw [HGK.out]; omega
        case rel => exact ⟨i + 1, rfl, by omega, rfl, HO10.out, hfr9⟩
      · have hsk := Jn_skip hlt hf
        have HSK := Lib.hid hsk
        obtain ⟨y, hy, hyn⟩ : ∃ y : Int, ev (f es[i].1) = .int .i64 y ∧ (y == (es[i].2 : Int)) = false := by
          cases hfe : f es[i].1 with
          | none => exact ⟨-1, rfl, by first | (simp; done) | (simp; omega)⟩
          | some u => exact ⟨u, rfl, by simp; intro h; exact hf (by rw [hfe]; congr 1; omega)⟩
        rw [hy] at c1
        clear hsk hf c2 hy
        generalize es[i] = e at p1 p2 m1 m2 m3 c1 hyn
        simp only [iv] at p1 p2
        rw [← Nat.add_assoc] at p2
        go_upto_region 7 with (fail)
        have f5 : Fr No wr (wr.alloc (.cells #[.int .i64 (e.1 : Int), .int .i64 (e.2 : Int)] 56)) := (Fr.refl _ _).alloc _
        have c5 := Cs.new wr 56 #[.int .i64 (e.1 : Int), .int .i64 (e.2 : Int)]
        have r1 := c5.cell 0
        have r2 := c5.cell 1
        generalize wr.alloc (.cells #[.int .i64 (e.1 : Int), .int .i64 (e.2 : Int)] 56) = w5 at f5 r1 r2 ⊢
        generalize wr.heap.size = b5 at r1 r2 ⊢
        simp only [List.getElem?_toArray, List.getElem?_cons_zero, List.getElem?_cons_succ] at r1 r2
        have c1 := f5.cell c1 id
        have h1i : (e.1 : Int) < (n : Int) := by omega
        have HO5 := Lib.hid (hO.fr f5 fun _ _ => id)
        have hfr5 : Fr (fun x => x = bj) w3 w5 := hfr.step f5.any
        clear p1 p2 c5 hO hfr f5
        go_quiet (fail)
        go_wp2_with fail
        go_roundg (es.length - (i + 1))
        case measure => rw [HGK.out]; omega
        case rel => exact ⟨i + 1, rfl, by omega, rfl, by unfold jl; rw [HSK.out]; exact HO5.out.fr ((Fr.refl No _).drewN _) fun _ _ => id, hfr5.drewN _⟩
    · have : i = es.length := by omega
      subst this
      have HO9 := Lib.hid hO
      have hfw : Fr No w wr := f3.trans hfr fun x hx e => by subst e; omega
      have HOm := Lib.hid (HO3.out.fr hfr fun b hb e => by have := HJM.out b hb; omega)
      clear hO hfr
      go_wp2_with fail
      go_loopg [59] n (MRRel2 wr n)
      case atStart => exact ⟨0, rfl, by omega, by omega, rfl⟩
      case round =>
        obtain ⟨v, rfl, hv, hg, rfl⟩ := hrel
        have HGK := Lib.hid hg
        clear hg
        by_cases hlt2 : v < n
        · obtain ⟨bm, om, rfl⟩ := HOm.out.some (by omega)
          have c1 := (HOm.out.cellAt (mv_get (f := f) hlt2)).1
          have c2 := (HO9.out.cellAt (jl_get (f := f) (i := es.length) (es := es) hlt2)).1
          have hvi : (v : Int) < (n : Int) := by omega
          simp only [Nat.zero_add] at c2
          cases hfv : f v with
          | none =>
            rw [hfv] at c1
            simp only [ev] at c1
            clear c2 hfv
            go_wp2_with fail
            go_roundg (n - (v + 1))
            case measure => rw [HGK.out]; omega
            case rel => exact ⟨v + 1, rfl, by omega, rfl, rfl⟩
          | some u =>
            have hjt : Jn es f es.length v = true := by
              apply Jn_true
              rw [List.take_length]
              rcases HM.out.adj _ _ hfv with h | h
              · exact ⟨_, h, hfv, .inl rfl⟩
              · exact ⟨_, h, HM.out.sym _ _ hfv, .inr rfl⟩
            rw [hfv] at c1
            rw [hjt] at c2
            simp only [ev] at c1
            have e1 : ((u : Int) != -1) = true := by simp
            clear hjt hfv
            go_wp2_with fail
            go_roundg (n - (v + 1))
            case measure => rw [HGK.out]; omega
            case rel => exact ⟨v + 1, rfl, by omega, rfl, rfl⟩
        · go_wp2_with fail
          go_ret
          exact ⟨rfl, hfw⟩
end Gar

namespace Gar
open Go Go.RowKit Go.Proofs
set_option maxRecDepth 100000
set_option maxHeartbeats 1600000
variable {w : World} {n : Nat} {f : Nat → Option Nat}

theorem free_spec {bm cm v : Nat} (hv : v < n) (hm : w.cell? ⟨bm, v, none⟩ = some (ev (f v))) :
    Calls Try.prog 50 #[.agg #[.slice (some ⟨bm, 0, none⟩) n cm], iv v] w (fun e w' => e = .returned (.bool (f v).isNone) ∧ Fr No w w') := by
  have hf : Fr No w (w.alloc (.cells #[.slice (some ⟨bm, 0, none⟩) n cm] 85)) := (Fr.refl _ _).alloc _
  have h2 := hf.cell hm id
  have c := Cs.new w 85 #[.slice (some ⟨bm, 0, none⟩) n cm]
  have c0 := c.cell 0
  simp only [List.getElem?_toArray, List.getElem?_cons_zero] at c0
  clear c hm
  simp only [iv]
  cases hfv : f v with
  | none =>
    rw [hfv] at h2; simp only [ev] at h2
    go_enter Try.func50, Try.ntmps50
    go_wp2_with fail
    go_ret
    exact ⟨rfl, hf⟩
  | some x =>
    rw [hfv] at h2; simp only [ev] at h2
    have e : decide ((x : Int) < 0) = false := by simp
    go_enter Try.func50, Try.ntmps50
    go_wp2_with fail
    go_ret
    exact ⟨by simp, hf⟩

def IdxPost (w : World) (f : Nat → Option Nat) (us : List Nat) (e : Ending) (w' : World) : Prop :=
  Fr No w w' ∧ ((∃ (i u : Nat), us[i]? = some u ∧ f u = none ∧ e = .returned (.int .i64 (i : Int))) ∨ ((∀ u ∈ us, f u ≠ none) ∧ e = .returned (.int .i64 (-1))))
def IdxRel (w : World) (f : Nat → Option Nat) (us : List Nat) (g : Nat) (x : Value) (wr : World) : Prop :=
  ∃ i : Nat, x = .int .i64 (i : Int) ∧ i ≤ us.length ∧ g = us.length - i ∧ Fr No w wr ∧ ∀ j u, j < i → us[j]? = some u → f u ≠ none

theorem index_spec {A : Option Addr} {c bm cm : Nat} {us : List Nat} (hus : Rd w 1 A us.length (us.map iv)) (hul : us.length ≤ 1000000) (hlt : ∀ u ∈ us, u < n) (hm : ∀ v, v < n → w.cell? ⟨bm, v, none⟩ = some (ev (f v))) :
    Calls Try.prog 51 #[.slice A us.length c, .func (.func 50) #[.agg #[.slice (some ⟨bm, 0, none⟩) n cm]] #[]] w (IdxPost w f us) := by
  have HU := Lib.hid hus
  have HL := Lib.hid hlt
  have HM := Lib.hid hm
  clear hus hlt hm
  go_enter Try.func51, Try.ntmps51
  go_wp2_with fail
  go_loopg [8] us.length (IdxRel w f us)
  case atStart => exact ⟨0, rfl, by omega, by omega, Fr.refl _ _, by omega⟩
  case round =>
    obtain ⟨i, rfl, hi, hg, hfr, hall⟩ := hrel
    have HG := Lib.hid hg
    have HA := Lib.hid hall
    clear hg hall
    by_cases hlt : i < us.length
    · obtain ⟨b, o, rfl, hc⟩ := (HU.out.fr hfr fun _ _ => id).at_ (by simp; omega)
      have h1 := hc i (iv us[i]) (by simp [hlt])
      have hun := HL.out us[i] (List.getElem_mem hlt)
      have hget : us[i]? = some us[i] := List.getElem?_eq_getElem hlt
      have HGET := Lib.hid hget
      clear hc hget
      generalize us[i] = u at h1 hun HGET
      have hmu := hfr.cell (HM.out u hun) id
      simp only [iv] at h1
      cases hfu : f u with
      | none =>
        have HF := Lib.hid hfu
        clear hfu
        go_wp2_with (go_at_call 50; refine (free_spec (cm := cm) hun hmu).mono ?_; rintro e w' ⟨rfl, hf2⟩; rw [HF.out])
        go_ret
        exact ⟨hfr.step hf2, .inl ⟨i, u, HGET.out, HF.out, rfl⟩⟩
      | some x =>
        have HF := Lib.hid hfu
        clear hfu
        go_wp2_with (go_at_call 50; refine (free_spec (cm := cm) hun hmu).mono ?_; rintro e w' ⟨rfl, hf2⟩; rw [HF.out])
        go_roundg (us.length - (i + 1))
        case measure => rw [HG.out]; omega
        case rel =>
          refine ⟨i + 1, rfl, by omega, rfl, hfr.step hf2, fun j u' hj hu' => ?_⟩
          rcases Nat.lt_or_ge j i with h | h
          · exact HA.out j u' h hu'
          · have : j = i := by omega
            subst this
            rw [HGET.out] at hu'; injection hu' with hu'; subst hu'; rw [HF.out]; simp
    · have : i = us.length := by omega
      subst this
      go_wp2_with fail
      go_ret
      refine ⟨hfr, .inr ⟨fun u hu => ?_, rfl⟩⟩
      obtain ⟨j, hj, e⟩ := List.getElem_of_mem hu
      exact HA.out j u hj (by rw [List.getElem?_eq_getElem hj, e])
end Gar
