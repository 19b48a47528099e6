/-
  PROVED: lemmas of the claim; no condition beyond what each one states.
  Walks: pieces.Of.
  Walks: what a set lacks.
  Walks: barrier.Shows, of a set that shows it.
  Walks: the reference's mates: Right, Edges, Size; Shows.
  Walks: the reference's Shows, of a set that shows it.
-/
import Derived.Test.YtohpjggnhnjgpaaPart15
import Derived.Test.YtohpjggnhnjgpaaPart17
import Derived.Test.YtohpjggnhnjgpaaPart19
import Derived.Test.YtohpjggnhnjgpaaPart11
set_option linter.unusedVariables false
set_option linter.unusedSimpArgs false

namespace Gar
open Go Go.RowKit Go.Proofs
set_option maxRecDepth 100000
set_option maxHeartbeats 1600000
variable {w : World} {n : Nat} {es : List (Nat × Nat)}

theorem OwnRows.nearT2 {B b : Nat} {rows : Nat → List Nat} {A : Nat → Option Addr} {c : Nat → Nat} {w : World} (h : OwnRows w B b n rows A c) : NearT w (some ⟨b, 0, none⟩) n rows (fun x => x < w.heap.size) := fun v hv => by
  obtain ⟨cs, h1, _⟩ := h.cs
  exact ⟨b, 0, rfl, h1.lt, A v, c v, by simpa using (h.cellAt hv).1, (h.row v hv).rd, (h.row v hv).lt⟩

theorem WP.mono {O O' : Nat → Prop} {bw bd cn c3 : Nat} {An A3 : Option Addr} {dn : Nat → Bool} {x2 : Value} (h : WP w O bw bd n An cn dn x2 A3 c3) (hO : ∀ x, x < w.heap.size → O x → O' x) : WP w O' bw bd n An cn dn x2 A3 c3 :=
  ⟨h.hdr, h.don, h.rest, fun x hx => ⟨(h.f3 x hx).1, (h.f3 x hx).2.1, hO x (h.rest.lt x hx) (h.f3 x hx).2.2⟩, h.ne, hO bw h.hdr.lt h.hB.1, hO bd (h.don.lt bd ⟨_, rfl, rfl⟩) h.hB.2⟩
theorem WP.frO {O S : Nat → Prop} {w' : World} {bw bd cn c3 : Nat} {An A3 : Option Addr} {dn : Nat → Bool} {x2 : Value} (h : WP w O bw bd n An cn dn x2 A3 c3) (k : Fr S w w') (hS : ∀ x, O x → ¬ S x) : WP w' O bw bd n An cn dn x2 A3 c3 :=
  ⟨h.hdr.fr k (hS _ h.hB.1), h.don.fr k fun x hx => by obtain ⟨ad, e1, e2⟩ := hx; injection e1 with e1; subst e1; subst e2; exact hS _ h.hB.2, h.rest.fr k fun x hx => hS x (h.f3 x hx).2.2, h.f3, h.ne, h.hB⟩

def Pof1 (w : World) (bw bd n : Nat) (An : Option Addr) (cn : Nat) (out : List Nat) (g : Nat) (x : Value) (wr : World) : Prop :=
  ∃ i : Nat, x = .int .i64 (i : Int) ∧ i ≤ out.length ∧ g = out.length - i ∧ WP wr (fun x => w.heap.size ≤ x) bw bd n An cn (fun u => decide (u ∈ out.take i)) (.slice none 0 0) none 0 ∧ Fr No w wr
def Pof2 (w : World) (bw bd n : Nat) (An : Option Addr) (cn : Nat) (adj : Nat → Nat → Prop) (P : Nat → Prop) (g : Nat) (x x8 : Value) (wr : World) : Prop :=
  ∃ (k : Nat) (dn : Nat → Bool) (vals : List Value) (L : List (List Nat)) (A : Option Addr) (c : Nat) (x2 : Value) (A3 : Option Addr) (c3 : Nat), x = .int .i64 (k : Int) ∧ x8 = .slice A L.length c ∧ k ≤ n ∧ g = n - k ∧ DnAt n adj P k dn ∧ L = pcs n adj P k ∧
    WP wr (fun x => w.heap.size ≤ x ∧ ¬ InA A x) bw bd n An cn dn x2 A3 c3 ∧ Ow wr 1 A L.length c vals ∧ Lens vals L ∧ (∀ x, InA A x → w.heap.size ≤ x) ∧ Fr No w wr

theorem pof_spec {An Ao : Option Addr} {cn co : Nat} {out : List Nat} (hG : Good n es) (G : Gr n (adjOf es)) (hN : NearT w An n (rowsOf es) (fun x => x < w.heap.size)) (hol : out.length ≤ 1000000) (hon : ∀ v ∈ out, v < n) (hout : Rd w 1 Ao out.length (out.map iv)) :
    Calls Try.prog 46 #[.slice An n cn, .slice Ao out.length co] w (WithoutPost w n es (fun v => v < n ∧ v ∉ out)) := by
  have hn := hG.n_le
  obtain ⟨j0, hj, hy0, hy1, hy2⟩ := info_parts info_bool
  obtain ⟨iS, hSi, hSz, hS1, hS2⟩ := info_parts info_ints
  have HG := Lib.hid hG
  have HGr := Lib.hid G
  have HN := Lib.hid hN
  have HON := Lib.hid hon
  have HOU := Lib.hid hout
  clear hG G hN hon hout
  go_enter Try.func46, Try.ntmps46
  go_upto_region 2 with (at_make; refine wpList_make_ow rfl _ _ 96 rfl 4 j0 (.bool false) Try.underlying96 hj hy0 hy1 (by simp [Value.cells]) _ _ _ _ n rfl rfl rfl rfl (by rw [hy2]; omega) (by simp only [maxLen]; omega) ?_; intro bd w1 hbd hOd hfr1)
  have f2 : Fr No w (w1.alloc (.cells #[.slice An n cn, .slice (some ⟨bd, 0, none⟩) n n, .slice none 0 0, .slice none 0 0] 101)) := hfr1.alloc _
  have hbdl := hOd.lt bd ⟨_, rfl, rfl⟩
  have hd0 : List.replicate n (Value.bool false) = bl n (fun u => decide (u ∈ out.take 0)) := List.ext_getElem? fun v => by
    rw [List.getElem?_replicate]
    by_cases h : v < n
    · rw [if_pos h, bl_get h]; simp
    · rw [if_neg h, List.getElem?_eq_none (by simp [bl]; omega)]
  rw [hd0] at hOd
  have hW : WP (w1.alloc (.cells #[.slice An n cn, .slice (some ⟨bd, 0, none⟩) n n, .slice none 0 0, .slice none 0 0] 101)) (fun x => w.heap.size ≤ x) w1.heap.size bd n An cn (fun u => decide (u ∈ out.take 0)) (.slice none 0 0) none 0 :=
    ⟨Cs.new _ _ _, hOd.fr ((Fr.refl No _).alloc _) fun _ _ => id, Ow.nil_ _ _, (fun x ⟨ad, h, _⟩ => by cases h), by omega, hfr1.size, hbd⟩
  generalize w1.alloc (.cells #[.slice An n cn, .slice (some ⟨bd, 0, none⟩) n n, .slice none 0 0, .slice none 0 0] 101) = w2 at f2 hW ⊢
  generalize w1.heap.size = bw at hW ⊢
  have HW := Lib.hid hW
  clear hW hd0 hOd hfr1 hbdl
  go_wp2_with fail
  go_loopg [18] out.length (Pof1 w bw bd n An cn out)
  case atStart => exact ⟨0, rfl, by omega, by omega, HW.out, f2⟩
  case round =>
    clear HW f2
    obtain ⟨i, rfl, hi, hg, hWr, hfr⟩ := hrel
    have HGK := Lib.hid hg
    have HW := Lib.hid hWr
    have g1 := hWr.hdr.cell 1
    simp only [List.getElem?_toArray, List.getElem?_cons_zero, List.getElem?_cons_succ] at g1
    clear hg
    by_cases hlt : i < out.length
    · obtain ⟨bo, oo, rfl, hc⟩ := (HOU.out.fr hfr fun _ _ => id).at_ (by rw [List.length_map]; omega)
      have h1 := hc i (iv out[i]) (by simp [hlt])
      have hvn := HON.out _ (List.getElem_mem hlt)
      have htk : out.take (i + 1) = out.take i ++ [out[i]] := List.take_succ_eq_append_getElem hlt
      have HT := Lib.hid htk
      have hii : (i : Int) < (out.length : Int) := by omega
      clear hc htk
      generalize out[i] = y at h1 hvn HT
      simp only [iv] at h1
      have c1 := (hWr.don.cellAt (bl_get (d := fun u => decide (u ∈ out.take i)) hvn)).1
      have z1 := (hWr.don.cellAt (bl_get (d := fun u => decide (u ∈ out.take i)) hvn)).2
      generalize (decide (y ∈ out.take i)) = vb at c1
      have hdon := hWr.don.set y (.bool true)
      rw [bl_put] at hdon
      simp only [Nat.zero_add] at c1 z1 hdon
      have hput : put1 (fun u => decide (u ∈ out.take i)) y = fun u => decide (u ∈ out.take (i + 1)) := by
        funext u; unfold put1; rw [HT.out]; by_cases e : u = y <;> simp [e]
      rw [hput] at hdon
      have hfs : Fr (fun x => x = bd) wr (wr.setCell ⟨bd, y, none⟩ (.bool true)) := (Fr.refl (fun x => x = bd) wr).setCell _ _ fun _ => rfl
      have hW5 : WP (wr.setCell ⟨bd, y, none⟩ (.bool true)) (fun x => w.heap.size ≤ x) bw bd n An cn (fun u => decide (u ∈ out.take (i + 1))) (.slice none 0 0) none 0 :=
        ⟨hWr.hdr.fr hfs hWr.ne, hdon, Ow.nil_ _ _, hWr.f3, hWr.ne, hWr.hB⟩
      have hfr5 : Fr No w (wr.setCell ⟨bd, y, none⟩ (.bool true)) := hfr.new hfs fun x e => by rw [e]; exact hWr.hB.2
      have d1 : decide (y < n) = true := by simp [hvn]
      have HW5 := Lib.hid hW5
      clear hWr hW5 hfs hput hdon hfr
      go_wp2_with fail
      generalize wr.setCell ⟨bd, y, none⟩ (.bool true) = w5 at HW5 hfr5 ⊢
      go_roundg (out.length - (i + 1))
      case measure => rw [HGK.out]; omega
      case rel => exact ⟨i + 1, rfl, by omega, rfl, HW5.out, hfr5⟩
    · have : i = out.length := by omega
      subst this
      rw [List.take_length] at hWr
      have hD0 : DnAt n (adjOf es) (fun v => v < n ∧ v ∉ out) 0 (fun u => decide (u ∈ out)) := fun u hu => by
        simp only [decide_eq_true_eq]
        constructor
        · intro h; exact .inl fun q => q.2 h
        · rintro (h | ⟨t, ht, _⟩)
          · exact Classical.byContradiction fun q => h ⟨hu, q⟩
          · omega
      have HD0 := Lib.hid hD0
      have HW2 := Lib.hid (hWr.mono (O' := fun x => w.heap.size ≤ x ∧ ¬ InA none x) fun x _ h => ⟨h, fun ⟨ad, e, _⟩ => by cases e⟩)
      clear hWr HW g1 hD0
      go_wp2_with fail
      go_loopg [39, 8] n (Pof2 w bw bd n An cn (adjOf es) (fun v => v < n ∧ v ∉ out))
      case atStart => exact ⟨0, _, [], [], none, 0, _, none, 0, rfl, rfl, by omega, rfl, HD0.out, by simp [pcs], HW2.out, Ow.nil_ _ _, Lens.nil, (fun x ⟨ad, h, _⟩ => by cases h), hfr⟩
      case round =>
        clear HW2 HD0 hfr
        obtain ⟨k, dn, vals, L, A, c, x2, A3, c3, rfl, rfl, hk, hg, hD, hL, hW, hO, hlens, hA, hfr⟩ := hrel
        have HGK := Lib.hid hg
        have g1 := hW.hdr.cell 1
        simp only [List.getElem?_toArray, List.getElem?_cons_zero, List.getElem?_cons_succ] at g1
        have HX := Lib.hid (show DnAt n (adjOf es) (fun v => v < n ∧ v ∉ out) k dn ∧ L = pcs n (adjOf es) (fun v => v < n ∧ v ∉ out) k ∧ WP wr (fun x => w.heap.size ≤ x ∧ ¬ InA A x) bw bd n An cn dn x2 A3 c3 ∧ Ow wr 1 A L.length c vals ∧ Lens vals L from ⟨hD, hL, hW, hO, hlens⟩)
        have HP := Lib.hid (show ∀ u, (fun v => v < n ∧ v ∉ out) u → u < n from fun u hu => hu.1)
        have hLk : L.length ≤ k := by
          rw [hL]; unfold pcs; rw [List.length_map]
          refine Nat.le_trans (List.length_filter_le _ _) (by simp)
        clear hg hD hL hO hlens
        by_cases hlt : k < n
        · have c1 := (hW.don.cellAt (bl_get (d := dn) hlt)).1
          simp only [Nat.zero_add] at c1
          have hki : (k : Int) < (n : Int) := by omega
          clear hW
          cases hdk : dn k with
          | true =>
            rw [hdk] at c1
            have hD2 := HX.out.1.skip HP.out hlt hdk
            have hskip : pcs n (adjOf es) (fun v => v < n ∧ v ∉ out) (k + 1) = pcs n (adjOf es) (fun v => v < n ∧ v ∉ out) k := pcs_skip _ _ fun h => by
              have := (HX.out.1.rep HGr.out.sym hlt).2 h; rw [hdk] at this; cases this
            have HY := Lib.hid (And.intro hD2 hskip)
            clear hdk hD2 hskip
            go_wp2_with fail
            go_roundg (n - (k + 1))
            case measure => rw [HGK.out]; omega
            case rel => exact ⟨k + 1, dn, vals, L, A, c, x2, A3, c3, rfl, rfl, by omega, rfl, HY.out.1, by rw [HY.out.2]; exact HX.out.2.1, HX.out.2.2.1, HX.out.2.2.2.1, HX.out.2.2.2.2, hA, hfr⟩
          | false =>
            rw [hdk] at c1
            have HDK := Lib.hid hdk
            clear hdk
            have hNr : NearT wr An n (rowsOf es) (fun x => ¬ (w.heap.size ≤ x ∧ ¬ InA A x)) := by
              intro v hv
              obtain ⟨b, o, h1, h2, Av, cv, h3, h4, h5⟩ := (HN.out.fr hfr fun _ _ => id) v hv
              exact ⟨b, o, h1, fun h => by omega, Av, cv, h3, h4, fun x hx h => by have := h5 x hx; omega⟩
            have HNR := Lib.hid hNr
            have hAlt := HX.out.2.2.2.1.lt
            have hOn : ∀ x, wr.heap.size ≤ x → (w.heap.size ≤ x ∧ ¬ InA A x) := fun x hx => ⟨Nat.le_trans hfr.size hx, fun h => by have := hAlt x h; omega⟩
            have HON2 := Lib.hid hOn
            clear hNr hOn hAlt
            go_wp2_with fail
            refine (piece_spec (rows := rowsOf es) (adj := adjOf es) hn HX.out.2.2.1 HON2.out hlt HDK.out (fun v u hv => mem_rowsOf.symm) (fun v u h => (HGr.out.lt v u h).2) (fun v hv => by have := rows_len es v; have := HG.out.m_le; omega) HNR.out).mono ?_
            rintro e w5 ⟨dn5, now5, A5, c5, A6, c6, rfl, hDf, hW5, hfr5⟩
            have hO5 := HX.out.2.2.2.1.fr hfr5 fun x hx h => h.2 hx
            have hlt5 := hO5.lt
            clear c1 g1
            go_wp2_with (at_builtin; refine wpList_append_to rfl (.tmp 50) (.tmp 54) 33 rfl 22 iS (.slice none 0 0) 1 24 Try.underlying33 hSi hSz hS1 hS2 rfl (by decide) (L.length + 1) (vals ++ [.slice A5 now5.length c5]) rfl (hO5.fr ((Fr.refl No _).alloc _) fun _ _ => id) rfl (Rd.one (World.cell?_alloc_new _ _ _ 0)) (by simp [Value.oneCell']) rfl rfl (by omega) (by simp only [maxLen]; omega) ?_; intro A7 c7 w7 hO7 hfr7 hA7)
            have hnx := HX.out.1.next HGr.out.sym HP.out hlt HDK.out hDf
            have hpcs : pcs n (adjOf es) (fun v => v < n ∧ v ∉ out) (k + 1) = pcs n (adjOf es) (fun v => v < n ∧ v ∉ out) k ++ [pc n (adjOf es) (fun v => v < n ∧ v ∉ out) k] := pcs_succ _ _ ((HX.out.1.rep HGr.out.sym hlt).1 HDK.out)
            have hal : Fr No w5 (w5.alloc (.cells #[.slice A5 now5.length c5] 22)) := (Fr.refl _ _).alloc _
            have hW6 := ((hW5.fr hal).mono (O' := fun x => (w.heap.size ≤ x ∧ ¬ InA A x) ∧ ¬ InA A7 x) fun x hx h => ⟨h, fun h7 => (hA7 x h7).elim h.2 fun h8 => by omega⟩).frO hfr7 fun x h => h.1.2
            have hW7 := hW6.mono (O' := fun x => w.heap.size ≤ x ∧ ¬ InA A7 x) fun x _ h => ⟨h.1.1, h.2⟩
            have hfr8 : Fr No w w7 := ((hfr.trans hfr5 fun x hx h => absurd h.1 (Nat.not_le.2 hx)).step hal).new hfr7 hA
            have hA8 : ∀ x, InA A7 x → w.heap.size ≤ x := fun x hx => (hA7 x hx).elim (hA x) fun h => Nat.le_trans ((hfr.trans hfr5 fun x hx h => absurd h.1 (Nat.not_le.2 hx)).step hal).size h
            have hln := HX.out.2.2.2.2.snoc (pc n (adjOf es) (fun v => v < n ∧ v ∉ out) k) A5 c5
            rw [← hnx.2] at hln
            have HY := Lib.hid (show DnAt n (adjOf es) (fun v => v < n ∧ v ∉ out) (k + 1) dn5 ∧ L ++ [pc n (adjOf es) (fun v => v < n ∧ v ∉ out) k] = pcs n (adjOf es) (fun v => v < n ∧ v ∉ out) (k + 1) ∧ WP w7 (fun x => w.heap.size ≤ x ∧ ¬ InA A7 x) bw bd n An cn dn5 (.slice A5 now5.length c5) A6 c6 ∧ Ow w7 1 A7 (L.length + 1) c7 (vals ++ [.slice A5 now5.length c5]) ∧
              Lens (vals ++ [.slice A5 now5.length c5]) (L ++ [pc n (adjOf es) (fun v => v < n ∧ v ∉ out) k]) ∧ (∀ x, InA A7 x → w.heap.size ≤ x) ∧ Fr No w w7 from ⟨hnx.1, by rw [hpcs, HX.out.2.1], hW7, hO7, hln, hA8, hfr8⟩)
            clear hnx hpcs hal hW6 hW7 hfr8 hA8 hln hDf hW5 hfr5 hO5 hlt5 hO7 hfr7 hA7 hfr
            go_roundg (n - (k + 1))
            case measure => rw [HGK.out]; omega
            case rel => exact ⟨k + 1, dn5, _, L ++ [pc n (adjOf es) (fun v => v < n ∧ v ∉ out) k], A7, c7, _, A6, c6, rfl, by simp, by omega, rfl, HY.out.1, HY.out.2.1, HY.out.2.2.1, by simpa using HY.out.2.2.2.1, HY.out.2.2.2.2.1, HY.out.2.2.2.2.2.1, HY.out.2.2.2.2.2.2⟩
        · have : k = n := by omega
          subst this
          have HPC := Lib.hid (show Pieces k (adjOf es) (fun v => v < k ∧ v ∉ out) L from by rw [HX.out.2.1, pcs_all]; exact piecesOf_pieces HGr.out.sym fun _ h => h.1)
          clear hW
          go_wp2_with fail
          go_ret
          exact ⟨L, A, c, vals, HPC.out, rfl, HX.out.2.2.2.1, HX.out.2.2.2.2, hfr, hA⟩
end Gar

namespace Gar
open Go Go.RowKit Go.Proofs
set_option maxRecDepth 100000
set_option maxHeartbeats 1600000
variable {w : World} {n : Nat} {es : List (Nat × Nat)}

theorem cpiece_spec {bc s len c : Nat} {A : Option Addr} (hs : s ≤ 10000) (hl : len ≤ 10000) (h0 : w.cell? ⟨bc, 0, none⟩ = some (.int .i64 (s : Int))) (z0 : w.frozen? ⟨bc, 0, none⟩ = false) :
    Calls Try.prog 75 #[.pointer (some ⟨bc, 0, none⟩), .slice A len c] w (fun e w' => e = .returned (.tuple #[]) ∧ w' = w.setCell ⟨bc, 0, none⟩ (.int .i64 ((s + len % 2 : Nat) : Int))) := by
  have e1 : (len : Int) % 2 = ((len % 2 : Nat) : Int) := by omega
  have e2 : (s : Int) + ((len % 2 : Nat) : Int) = ((s + len % 2 : Nat) : Int) := by omega
  have hm : len % 2 < 2 := Nat.mod_lt _ (by omega)
  generalize len % 2 = m at e1 e2 hm ⊢
  have E2 := Lib.hid e2
  clear e2
  go_enter Try.func75, Try.ntmps75
  go_wp2_with fail
  refine bodyPost_end (results_none rfl _ _ _) rfl ?_
  exact ⟨rfl, by rw [← E2.out]⟩

def LcRel (w1 : World) (bc : Nat) (L : List (List Nat)) (g : Nat) (x : Value) (wr : World) : Prop :=
  ∃ i : Nat, x = .int .i64 (i : Int) ∧ i ≤ L.length ∧ g = L.length - i ∧ wr.cell? ⟨bc, 0, none⟩ = some (.int .i64 ((sumOdd (L.take i) : Nat) : Int)) ∧ wr.frozen? ⟨bc, 0, none⟩ = false ∧ Fr (fun x => x = bc) w1 wr

def LacksPost (w : World) (n : Nat) (es : List (Nat × Nat)) (b : List Nat) (e : Ending) (w' : World) : Prop :=
  ∃ L, Pieces n (adjOf es) (fun v => v < n ∧ v ∉ b) L ∧ e = .returned (.int .i64 (((sumOdd L : Nat) : Int) - (b.length : Int))) ∧ Fr No w w'

theorem lacks_spec {An Ao : Option Addr} {cn co : Nat} {b : List Nat} (hG : Good n es) (G : Gr n (adjOf es)) (hN : NearT w An n (rowsOf es) (fun x => x < w.heap.size)) (hol : b.length ≤ 10000) (hon : ∀ v ∈ b, v < n) (hb : Rd w 1 Ao b.length (b.map iv)) :
    Calls Try.prog 59 #[.slice An n cn, .slice Ao b.length co] w (LacksPost w n es b) := by
  have hn := hG.n_le
  have f1 : Fr No w (w.alloc (.cells #[.int .i64 0] 119)) := (Fr.refl _ _).alloc _
  have c1 := Cs.new w 119 #[.int .i64 0]
  have HG := Lib.hid hG
  have HGr := Lib.hid G
  have HN := Lib.hid (show NearT (w.alloc (.cells #[.int .i64 0] 119)) An n (rowsOf es) (fun x => x < (w.alloc (.cells #[.int .i64 0] 119)).heap.size) from by
    intro v hv
    obtain ⟨b, o, h1, h2, A, c, h3, h4, h5⟩ := (hN.fr f1 fun _ _ => id) v hv
    exact ⟨b, o, h1, Nat.lt_of_lt_of_le h2 f1.size, A, c, h3, h4, fun x hx => Nat.lt_of_lt_of_le (h5 x hx) f1.size⟩)
  have HON := Lib.hid hon
  have HB := Lib.hid (hb.fr f1 fun _ _ => id)
  clear hG G hN hon hb
  go_enter Try.func59, Try.ntmps59
  go_upto_region 3 with (fail)
  have hbcw : w.heap.size ≤ w.heap.size := Nat.le_refl _
  generalize w.alloc (.cells #[.int .i64 0] 119) = w1 at f1 c1 HN HB ⊢
  generalize hbc : w.heap.size = bc at c1 hbcw ⊢
  have HBC := Lib.hid hbc
  clear hbc hbcw
  go_wp2_with fail
  refine (pof_spec HG.out HGr.out HN.out (by omega) HON.out HB.out).mono ?_
  rintro e w2 ⟨L, A, c, vals, hP, rfl, hO, hlens, hfr2, hAn⟩
  have f2 := f1.step hfr2
  have hLn := hP.count_le
  have hpl : ∀ l ∈ L, l.length ≤ n := fun l hl => hP.len_le hl
  have HP := Lib.hid hP
  have c2 := c1.fr hfr2 id
  have r0 := c2.cell 0
  have z0 := c2.frozen 0
  simp only [List.getElem?_toArray, List.getElem?_cons_zero] at r0
  have hcl := c1.lt
  have hAc : ∀ x, InA A x → x ≠ bc := fun x hx e => by have := hAn x hx; omega
  have HX := Lib.hid (show Ow w2 1 A L.length c vals ∧ Lens vals L ∧ (∀ l ∈ L, l.length ≤ n) ∧ ∀ x, InA A x → x ≠ bc from ⟨hO, hlens, hpl, hAc⟩)
  clear hP hO hlens hpl hfr2 f1 c1 c2 hAc hAn
  go_wp2_with fail
  go_loopg [17] L.length (LcRel w2 bc L)
  case atStart => exact ⟨0, rfl, by omega, rfl, r0, z0, Fr.refl _ _⟩
  case round =>
    clear r0 z0
    obtain ⟨i, rfl, hi, hg, r0, z0, hfr⟩ := hrel
    have HG2 := Lib.hid hg
    clear hg
    have hsl := sumOdd_le (L.take i)
    rw [List.length_take] at hsl
    by_cases hlt : i < L.length
    · obtain ⟨A', c', hv⟩ := HX.out.2.1.2 i L[i] (List.getElem?_eq_getElem hlt)
      obtain ⟨ba, oa, rfl⟩ := HX.out.1.some (by omega)
      have h1 := hfr.cell (HX.out.1.cellAt hv).1 (HX.out.2.2.2 ba ⟨_, rfl, rfl⟩)
      have hs : sumOdd (L.take (i + 1)) = sumOdd (L.take i) + L[i].length % 2 := by
        unfold sumOdd; rw [List.take_succ_eq_append_getElem hlt, List.map_append, List.sum_append]; simp only [List.map_cons, List.map_nil, List.sum_cons, List.sum_nil, Nat.add_zero]
      have hle := HX.out.2.2.1 L[i] (List.getElem_mem hlt)
      have HS := Lib.hid hs
      have hii : (i : Int) < (L.length : Int) := by omega
      clear hv hs
      generalize L[i].length = y at h1 HS hle
      generalize sumOdd (L.take i) = s at HS hsl r0
      have hfs : Fr (fun x => x = bc) w2 (wr.setCell ⟨bc, 0, none⟩ (.int .i64 ((s + y % 2 : Nat) : Int))) := hfr.setCell _ _ fun _ => rfl
      have t0 := World.cell?_setCell_same wr ⟨bc, 0, none⟩ (.int .i64 ((s + y % 2 : Nat) : Int)) r0
      have x0 : (wr.setCell ⟨bc, 0, none⟩ (.int .i64 ((s + y % 2 : Nat) : Int))).frozen? ⟨bc, 0, none⟩ = false := by rw [World.frozen?_setCell]; exact z0
      have HT := Lib.hid (And.intro t0 x0)
      clear t0 x0
      go_wp2_with (go_at_call 75; refine (cpiece_spec (s := s) (by omega) (by omega) r0 z0).mono ?_; rintro e w' ⟨rfl, rfl⟩)
      go_roundg (L.length - (i + 1))
      case measure => rw [HG2.out]; omega
      case rel => exact ⟨i + 1, rfl, by omega, rfl, by rw [HS.out]; exact HT.out.1, HT.out.2, hfs⟩
    · have : i = L.length := by omega
      subst this
      rw [List.take_length] at r0 hsl
      have hfw : Fr No w wr := f2.trans hfr fun x hx e => by have := HBC.out; omega
      obtain ⟨s, hsm⟩ : ∃ s, s = sumOdd L := ⟨_, rfl⟩
      rw [← hsm] at r0 hsl
      have HSM := Lib.hid hsm
      clear hsm hfr
      go_wp2_with fail
      go_ret
      exact ⟨L, HP.out, by rw [← HSM.out]; rfl, hfw⟩

def Lb1 (w1 : World) (m : Nat) (g : Nat) (x : Value) (wr : World) : Prop := ∃ i : Nat, x = .int .i64 (i : Int) ∧ i ≤ m ∧ g = m - i ∧ w1 = wr
def Lb2 (w1 : World) (bs n : Nat) (b : List Nat) (g : Nat) (x : Value) (wr : World) : Prop :=
  ∃ i : Nat, x = .int .i64 (i : Int) ∧ i ≤ b.length ∧ g = b.length - i ∧ Ow wr 1 (some ⟨bs, 0, none⟩) n n (bl n fun u => decide (u ∈ b.take i)) ∧ Fr (fun x => x = bs) w1 wr

theorem lackb_spec {Ae Ao : Option Addr} {ce co : Nat} {b : List Nat} (hG : Good n es) (G : Gr n (adjOf es)) (hR : Rd w 2 Ae es.length (cellsOf es)) (hnd : b.Nodup) (hbn : ∀ v ∈ b, v < n) (hb : Rd w 1 Ao b.length (b.map iv)) :
    Calls Try.prog 38 #[.agg #[.int .i64 (n : Int), .slice Ae es.length ce], .slice Ao b.length co] w (LackPost w n es b) := by
  have hn := hG.n_le
  have hbl : b.length ≤ n := nodup_le hnd hbn
  obtain ⟨j0, hj, hy0, hy1, hy2⟩ := info_parts info_bool
  have f1 : Fr No w (w.alloc (.cells #[.int .i64 (n : Int), .slice Ae es.length ce] 25)) := (Fr.refl _ _).alloc _
  have cg := Cs.new w 25 #[.int .i64 (n : Int), .slice Ae es.length ce]
  have g0 := cg.cell 0
  have g1 := cg.cell 1
  simp only [List.getElem?_toArray, List.getElem?_cons_zero, List.getElem?_cons_succ] at g0 g1
  have HG := Lib.hid hG
  have HGr := Lib.hid G
  have HR := Lib.hid (hR.fr f1 fun _ _ => id)
  have HB := Lib.hid (hb.fr f1 fun _ _ => id)
  have HND := Lib.hid hnd
  have HBN := Lib.hid hbn
  clear hR hG G hb hnd hbn cg
  go_enter Try.func38, Try.ntmps38
  go_upto_region 1 with (fail)
  generalize w.alloc (.cells #[.int .i64 (n : Int), .slice Ae es.length ce] 25) = w1 at f1 g0 g1 HR HB ⊢
  generalize w.heap.size = b2 at g0 g1 ⊢
  go_wp2_with fail
  refine (right_spec HG.out HR.out).mono ?_
  rintro e w2 ⟨rfl, hfr2⟩
  have g0 := hfr2.cell g0 id
  have g1 := hfr2.cell g1 id
  have f2 := f1.step hfr2
  have HR2 := Lib.hid (HR.out.fr hfr2 fun _ _ => id)
  have HB2 := Lib.hid (HB.out.fr hfr2 fun _ _ => id)
  clear hfr2 f1
  go_wp2_with fail
  go_loopg [16] b.length (Lb1 w2 b.length)
  case atStart => exact ⟨0, rfl, by omega, rfl, rfl⟩
  case round =>
    obtain ⟨i, rfl, hi, hg, rfl⟩ := hrel
    have HG2 := Lib.hid hg
    clear hg
    by_cases hlt : i < b.length
    · obtain ⟨bb, ob, rfl, hc⟩ := HB2.out.at_ (by rw [List.length_map]; omega)
      have h1 := hc i (iv b[i]) (by simp [hlt])
      have hbi := HBN.out _ (List.getElem_mem hlt)
      have hii : (i : Int) < (b.length : Int) := by omega
      clear hc
      generalize b[i] = y at h1 hbi
      simp only [iv] at h1
      have d1 : decide ((y : Int) < 0) = false := by simp
      have d2 : decide (n ≤ y) = false := by simp; omega
      go_wp2_with fail
      go_roundg (b.length - (i + 1))
      case measure => rw [HG2.out]; omega
      case rel => exact ⟨i + 1, rfl, by omega, rfl, rfl⟩
    · have : i = b.length := by omega
      subst this
      go_upto_region 10 with (at_make; refine wpList_make_ow rfl _ _ 96 rfl 4 j0 (.bool false) Try.underlying96 hj hy0 hy1 (by simp [Value.cells]) _ _ _ _ n rfl rfl rfl rfl (by rw [hy2]; omega) (by simp only [maxLen]; omega) ?_; intro bs w3 hbs hOs hfr3)
      have hb2l : b2 < w2.heap.size := World.block_lt_of_cell? w2 _ g0
      have g0 := hfr3.cell g0 id
      have g1 := hfr3.cell g1 id
      have f3 := f2.step hfr3
      have HR3 := Lib.hid (HR2.out.fr hfr3 fun _ _ => id)
      have HB3 := Lib.hid (HB2.out.fr hfr3 fun _ _ => id)
      have hd0 : List.replicate n (Value.bool false) = bl n (fun u => decide (u ∈ b.take 0)) := List.ext_getElem? fun v => by
        rw [List.getElem?_replicate]
        by_cases h : v < n
        · rw [if_pos h, bl_get h]; simp
        · rw [if_neg h, List.getElem?_eq_none (by simp [bl]; omega)]
      rw [hd0] at hOs
      have HOS := Lib.hid hOs
      have hbsl : ∀ x, 0 < b.length → InA Ao x → x < bs := fun x h hx => Nat.lt_of_lt_of_le (HB2.out.lt (by rw [List.length_map]; omega) x hx) hbs
      have hesl : ∀ x, 0 < es.length → InA Ae x → x < bs := fun x h hx => Nat.lt_of_lt_of_le (HR2.out.lt (by rw [cellsOf_len]; omega) x hx) hbs
      have HBSL := Lib.hid hbsl
      have HESL := Lib.hid hesl
      have hb2s : b2 ≠ bs := by omega
      have hsb : w.heap.size ≤ bs := Nat.le_trans f2.size hbs
      clear hd0 hOs hbsl hesl hfr3
      go_wp2_with fail
      go_loopg [34] b.length (Lb2 w3 bs n b)
      case atStart => exact ⟨0, rfl, by omega, by omega, HOS.out, Fr.refl _ _⟩
      case round =>
        clear HOS
        obtain ⟨i, rfl, hi, hg, hO, hfr⟩ := hrel
        have HG2 := Lib.hid hg
        clear hg
        by_cases hlt : i < b.length
        · obtain ⟨bb, ob, rfl, hc⟩ := (HB3.out.fr hfr fun x hx e => by have := HBSL.out x (by omega) hx; omega).at_ (by rw [List.length_map]; omega)
          have h1 := hc i (iv b[i]) (by simp [hlt])
          have hbi := HBN.out _ (List.getElem_mem hlt)
          have hii : (i : Int) < (b.length : Int) := by omega
          have htk : b.take (i + 1) = b.take i ++ [b[i]] := List.take_succ_eq_append_getElem hlt
          have hnot : b[i] ∉ b.take i := by
            intro hm
            obtain ⟨j, hj, e⟩ := List.getElem_of_mem hm
            rw [List.getElem_take] at e
            rw [List.length_take] at hj
            exact (List.pairwise_iff_getElem.1 HND.out) j i (by omega) hlt (by omega) e
          have HT := Lib.hid htk
          clear hc htk
          generalize b[i] = y at h1 hbi HT hnot
          simp only [iv] at h1
          have c1 := (hO.cellAt (bl_get (d := fun u => decide (u ∈ b.take i)) hbi)).1
          have z1 := (hO.cellAt (bl_get (d := fun u => decide (u ∈ b.take i)) hbi)).2
          rw [decide_eq_false hnot] at c1
          have hO5 := hO.set y (.bool true)
          rw [bl_put] at hO5
          have hput : put1 (fun u => decide (u ∈ b.take i)) y = fun u => decide (u ∈ b.take (i + 1)) := by
            funext u; unfold put1; rw [HT.out]; by_cases e : u = y <;> simp [e]
          rw [hput] at hO5
          simp only [Nat.zero_add] at c1 z1 hO5
          have hfr5 : Fr (fun x => x = bs) w3 (wr.setCell ⟨bs, y, none⟩ (.bool true)) := hfr.setCell _ _ fun _ => rfl
          have hyi : (y : Int) < (n : Int) := by omega
          have HO5 := Lib.hid hO5
          clear hO hO5 hput hnot hfr
          go_wp2_with fail
          generalize wr.setCell ⟨bs, y, none⟩ (.bool true) = w5 at HO5 hfr5 ⊢
          go_roundg (b.length - (i + 1))
          case measure => rw [HG2.out]; omega
          case rel => exact ⟨i + 1, rfl, by omega, rfl, HO5.out, hfr5⟩
        · have : i = b.length := by omega
          subst this
          have q0 := hfr.cell g0 hb2s
          have q1 := hfr.cell g1 hb2s
          have hfw : Fr No w wr := f3.trans hfr fun x hx e => by subst e; omega
          have HR5 := Lib.hid (show Rd wr 2 Ae es.length (cellsOf es) from by
            rcases Nat.eq_zero_or_pos es.length with h | h
            · have h9 : es = [] := List.eq_nil_of_length_eq_zero h
              subst h9; exact Rd.nil_ _ _ _
            · exact HR3.out.fr hfr fun x hx e => by have := HESL.out x h hx; omega)
          have HB5 := Lib.hid (show Rd wr 1 Ao b.length (b.map iv) from by
            rcases Nat.eq_zero_or_pos b.length with h | h
            · have h9 : b = [] := List.eq_nil_of_length_eq_zero h
              subst h9; exact Rd.nil_ _ _ _
            · exact HB3.out.fr hfr fun x hx e => by have := HBSL.out x h hx; omega)
          clear hO hfr
          go_wp2_with fail
          refine (lists_spec HG.out HR5.out).mono ?_
          rintro e w6 ⟨bn, An, cn, rfl, hbn, hOR, hfr6⟩
          have HN := Lib.hid hOR.nearT2
          have HB6 := Lib.hid (HB5.out.fr hfr6 fun _ _ => id)
          have hf6 := hfw.step hfr6
          clear hOR hfr6 q0 q1
          go_wp2_with fail
          refine (lacks_spec HG.out HGr.out HN.out (by omega) HBN.out HB6.out).mono ?_
          rintro e w7 ⟨L, hP, rfl, hfr7⟩
          have HP := Lib.hid hP
          have hf7 := hf6.step hfr7
          clear hP hfr7
          go_wp2_with fail
          go_ret2
          exact ⟨L, HP.out, rfl, hf7⟩
end Gar

namespace Gar
open Go Go.RowKit Go.Proofs
set_option maxRecDepth 100000
set_option maxHeartbeats 1600000
variable {w : World} {n : Nat} {es : List (Nat × Nat)}

theorem sizeOf_le (n : Nat) (f : Nat → Option Nat) : sizeOf' n f ≤ n := by
  unfold sizeOf'
  have := List.length_filter_le (fun v => (f v).isSome) (List.range n)
  rw [List.length_range] at this; omega

theorem showsb_spec {Ae Am Ao : Option Addr} {ce cm co : Nat} {b : List Nat} {f : Nat → Option Nat} (hG : Good n es) (G : Gr n (adjOf es)) (hR : Rd w 2 Ae es.length (cellsOf es)) (M : Mat n (adjOf es) f) (hO : Ow w 1 Am n cm (mv n f)) (hA : 0 < n → ∃ b, Am = some ⟨b, 0, none⟩)
    (hnd : b.Nodup) (hbn : ∀ v ∈ b, v < n) (hb : Rd w 1 Ao b.length (b.map iv)) (hh : ∀ L, Pieces n (adjOf es) (fun v => v < n ∧ v ∉ b) L → (n : Int) - (((sumOdd L : Nat) : Int) - (b.length : Int)) = ((2 * sizeOf' n f : Nat) : Int)) :
    Calls Try.prog 39 #[.agg #[.int .i64 (n : Int), .slice Ae es.length ce], .slice Am n cm, .slice Ao b.length co] w (fun e w' => e = .returned (.bool true) ∧ Fr No w w') := by
  have hn := hG.n_le
  have f1 : Fr No w (w.alloc (.cells #[.int .i64 (n : Int), .slice Ae es.length ce] 25)) := (Fr.refl _ _).alloc _
  have cg := Cs.new w 25 #[.int .i64 (n : Int), .slice Ae es.length ce]
  have g0 := cg.cell 0
  have g1 := cg.cell 1
  simp only [List.getElem?_toArray, List.getElem?_cons_zero, List.getElem?_cons_succ] at g0 g1
  have HG := Lib.hid hG
  have HGr := Lib.hid G
  have HR := Lib.hid (hR.fr f1 fun _ _ => id)
  have HB := Lib.hid (hb.fr f1 fun _ _ => id)
  have HO := Lib.hid (hO.fr f1 fun _ _ => id)
  have HX := Lib.hid (show Mat n (adjOf es) f ∧ (0 < n → ∃ b, Am = some ⟨b, 0, none⟩) ∧ b.Nodup ∧ (∀ v ∈ b, v < n) from ⟨M, hA, hnd, hbn⟩)
  have HH := Lib.hid hh
  clear hR hG G hb hnd hbn cg hO M hA hh
  go_enter Try.func39, Try.ntmps39
  go_upto_region 1 with (fail)
  generalize w.alloc (.cells #[.int .i64 (n : Int), .slice Ae es.length ce] 25) = w1 at f1 g0 g1 HR HB HO ⊢
  generalize w.heap.size = b3 at g0 g1 ⊢
  go_wp2_with fail
  refine (lackb_spec HG.out HGr.out HR.out HX.out.2.2.1 HX.out.2.2.2 HB.out).mono ?_
  rintro e w2 ⟨L, hP, rfl, hfr2⟩
  have hl := HH.out L hP
  have g0 := hfr2.cell g0 id
  have g1 := hfr2.cell g1 id
  have f2 := f1.step hfr2
  have HR2 := Lib.hid (HR.out.fr hfr2 fun _ _ => id)
  have HO2 := Lib.hid (HO.out.fr hfr2 fun _ _ => id)
  have hsz := sizeOf_le n f
  clear hfr2 f1 hP
  generalize ((sumOdd L : Nat) : Int) - (b.length : Int) = lk at hl ⊢
  generalize hs : sizeOf' n f = s at hl hsz
  obtain ⟨D, hD⟩ : ∃ D, D = 2 * s := ⟨_, rfl⟩
  rw [← hD] at hl
  have hmul : 2 * (s : Int) = (D : Int) := by omega
  have hwr : IntKind.i64.wrap (D : Int) = (D : Int) := by rw [IntKind.wrap_i64]; omega
  have HS := Lib.hid hs
  clear hD hs
  go_wp2_with fail
  go_region_held3 (fun w' => w'.cell? ⟨b3, 0, none⟩ = some (.int .i64 (n : Int)) ∧ w'.cell? ⟨b3, 1, none⟩ = some (.slice Ae es.length ce))
    (first | (simp [*]; done) | (exact ⟨s1, s2⟩))
    (first
      | (go_at_call 60; refine (mright_spec HG.out (HR2.out.fr ((Fr.refl No _).drew) fun _ _ => id) HX.out.1 (HO2.out.fr ((Fr.refl No _).drew) fun _ _ => id)).mono ?_; rintro e w5 ⟨rfl, hfr5⟩; have d5 : Fr No w2 w5 := (Fr.refl No w2).drew.step hfr5; have s1 := d5.cell g0 id; have s2 := d5.cell g1 id)
      | (go_at_call 33; refine (size_spec HGr.out HX.out.1 (by omega) (HO2.out.fr d5 fun _ _ => id) HX.out.2.1).mono ?_; rintro e w6 ⟨rfl, hfr6⟩; rw [HS.out]; have d6 : Fr No w2 w6 := d5.step hfr6; have s1 := d6.cell g0 id; have s2 := d6.cell g1 id))
  go_wp2_with fail
  go_ret
  exact ⟨rfl, f2.step d6⟩
end Gar

namespace Gar
open Go Go.RowKit Go.Proofs
set_option maxRecDepth 100000
set_option maxHeartbeats 1600000
variable {w : World} {n : Nat} {es : List (Nat × Nat)}

theorem turn2_mem {u v : Nat} (hG : Good n es) (h : adjOf es u v) : turn2 u v ∈ es := by
  unfold turn2
  rcases h with h | h
  · have := hG.mem _ h
    simp only at this
    rw [if_neg (by omega)]; exact h
  · have := hG.mem _ h
    simp only at this
    rw [if_pos (by omega)]; exact h

def R8Rel (w1 : World) (n : Nat) (g : Nat) (x : Value) (wr : World) : Prop := ∃ i : Nat, x = .int .i64 (i : Int) ∧ i ≤ n ∧ g = n - i ∧ Fr No w1 wr

theorem right8_spec {Ae Am : Option Addr} {ce cm : Nat} {f : Nat → Option Nat} (hG : Good n es) (hR : Rd w 2 Ae es.length (cellsOf es)) (M : Mat n (adjOf es) f) (hO : Ow w 1 Am n cm (mv n f)) :
    Calls Try.prog 32 #[.agg #[.int .i64 (n : Int), .slice Ae es.length ce], .slice Am n cm] w (fun e w' => e = .returned (.bool true) ∧ Fr No w w') := by
  have hn := hG.n_le
  have f1 : Fr No w (w.alloc (.cells #[.int .i64 (n : Int), .slice Ae es.length ce] 25)) := (Fr.refl _ _).alloc _
  have cg := Cs.new w 25 #[.int .i64 (n : Int), .slice Ae es.length ce]
  have g0 := cg.cell 0
  have g1 := cg.cell 1
  simp only [List.getElem?_toArray, List.getElem?_cons_zero, List.getElem?_cons_succ] at g0 g1
  have HG := Lib.hid hG
  have HR := Lib.hid (hR.fr f1 fun _ _ => id)
  have HO := Lib.hid (hO.fr f1 fun _ _ => id)
  have HM := Lib.hid M
  clear cg hR hG hO M
  go_enter Try.func32, Try.ntmps32
  go_upto_region 1 with (fail)
  generalize w.alloc (.cells #[.int .i64 (n : Int), .slice Ae es.length ce] 25) = w1 at f1 g0 g1 HR HO ⊢
  generalize w.heap.size = b1 at g0 g1 ⊢
  go_wp2_with fail
  refine (right2_spec HG.out HR.out).mono ?_
  rintro e w2 ⟨rfl, hfr2⟩
  have g0 := hfr2.cell g0 id
  have g1 := hfr2.cell g1 id
  have f2 := f1.step hfr2
  have HR2 := Lib.hid (HR.out.fr hfr2 fun _ _ => id)
  have HO2 := Lib.hid (HO.out.fr hfr2 fun _ _ => id)
  have e0 : ((n : Int) != (n : Int)) = false := by simp
  clear hfr2 f1
  go_upto_region 3 with (fail)
  clear e0
  go_wp2_with fail
  go_loopg [5] n (R8Rel w2 n)
  case atStart => exact ⟨0, rfl, by omega, by omega, Fr.refl _ _⟩
  case round =>
    obtain ⟨v, rfl, hv, hg, hfr⟩ := hrel
    have HGK := Lib.hid hg
    have q0 := hfr.cell g0 id
    have q1 := hfr.cell g1 id
    clear hg
    by_cases hlt : v < n
    · have hOr := HO2.out.fr hfr fun _ _ => id
      obtain ⟨bm, om, rfl⟩ := hOr.some (by omega)
      have c1 := (hOr.cellAt (mv_get (f := f) hlt)).1
      have hvi : (v : Int) < (n : Int) := by omega
      cases hfv : f v with
      | none =>
        rw [hfv] at c1
        simp only [ev] at c1
        clear hOr hfv
        go_wp2_with fail
        go_roundg (n - (v + 1))
        case measure => rw [HGK.out]; omega
        case rel => exact ⟨v + 1, rfl, by omega, rfl, hfr⟩
      | some u =>
        have hu := (HM.out.lt v u hfv).2
        have c2 := (hOr.cellAt (mv_get (f := f) hu)).1
        rw [HM.out.sym _ _ hfv] at c2
        rw [hfv] at c1
        have hmem := decide_eq_true (turn2_mem HG.out (HM.out.adj _ _ hfv))
        have HME := Lib.hid hmem
        have HRr := Lib.hid (HR2.out.fr hfr fun _ _ => id)
        simp only [ev] at c1 c2
        have e1 : ((u : Int) != -1) = true := by simp
        have e2 : ((v : Int) != (v : Int)) = false := by simp
        have hui : (u : Int) < (n : Int) := by omega
        clear hOr hfv hmem
        go_wp2_with (go_at_call 42; refine (has_spec HG.out HRr.out).mono ?_; rintro e w5 ⟨hfr5, rfl⟩; rw [HME.out]; have c2 := hfr5.cell c2 id)
        go_roundg (n - (v + 1))
        case measure => rw [HGK.out]; omega
        case rel => exact ⟨v + 1, rfl, by omega, rfl, hfr.step hfr5⟩
    · go_wp2_with fail
      go_ret
      exact ⟨rfl, f2.step hfr⟩

def upB (f : Nat → Option Nat) (v : Nat) : Bool := match f v with
  | some u => decide (v < u)
  | none => false
def ups (f : Nat → Option Nat) (k : Nat) : List (Nat × Nat) := ((List.range k).filter (upB f)).map fun v => (v, (f v).getD 0)
theorem ups_len (f : Nat → Option Nat) (k : Nat) : (ups f k).length ≤ k := by
  unfold ups; rw [List.length_map]
  have := List.length_filter_le (upB f) (List.range k); rw [List.length_range] at this; exact this
theorem ups_succ (f : Nat → Option Nat) (k : Nat) : ups f (k + 1) = ups f k ++ (if upB f k then [(k, (f k).getD 0)] else []) := by
  unfold ups
  rw [List.range_succ, List.filter_append, List.map_append]; congr 1
  cases h : upB f k <;> simp [h]

/-- Each edge has two ends. -/
theorem ups_size {adj : Nat → Nat → Prop} {f : Nat → Option Nat} (G : Gr n adj) (M : Mat n adj f) : (ups f n).length = sizeOf' n f := by
  have h1 : (ups f n).length = ((List.range n).filter (upB f)).length := by unfold ups; rw [List.length_map]
  have hsplit : ((List.range n).filter fun v => (f v).isSome).length = ((List.range n).filter (upB f)).length + ((List.range n).filter fun v => (f v).isSome && !upB f v).length := by
    have : ∀ l : List Nat, (l.filter fun v => (f v).isSome).length = (l.filter (upB f)).length + (l.filter fun v => (f v).isSome && !upB f v).length := by
      intro l
      induction l with
      | nil => rfl
      | cons a l ih =>
        simp only [List.filter_cons]
        have hup : upB f a = true → (f a).isSome = true := by unfold upB; cases f a <;> simp
        cases h1 : upB f a <;> cases h2 : (f a).isSome <;> simp_all <;> omega
    exact this _
  have hmem1 : ∀ v, v ∈ (List.range n).filter (upB f) ↔ v < n ∧ ∃ u, f v = some u ∧ v < u := fun v => by
    simp only [List.mem_filter, List.mem_range, upB]
    constructor
    · rintro ⟨h1, h2⟩
      cases h : f v with
      | none => rw [h] at h2; cases h2
      | some u => rw [h] at h2; exact ⟨h1, u, rfl, by simpa using h2⟩
    · rintro ⟨h1, u, h2, h3⟩
      exact ⟨h1, by rw [h2]; simpa using h3⟩
  have hmem2 : ∀ v, v ∈ (List.range n).filter (fun v => (f v).isSome && !upB f v) ↔ v < n ∧ ∃ u, f v = some u ∧ u < v := fun v => by
    simp only [List.mem_filter, List.mem_range, upB]
    constructor
    · rintro ⟨h1, h2⟩
      cases h : f v with
      | none => rw [h] at h2; simp at h2
      | some u =>
        rw [h] at h2
        simp at h2
        have hne : u ≠ v := fun e => by subst e; exact G.irr _ (M.adj _ _ h)
        exact ⟨h1, u, rfl, by omega⟩
    · rintro ⟨h1, u, h2, h3⟩
      exact ⟨h1, by rw [h2]; simp; omega⟩
  have hnd1 : ((List.range n).filter (upB f)).Nodup := List.nodup_range.filter _
  have hnd2 : ((List.range n).filter fun v => (f v).isSome && !upB f v).Nodup := List.nodup_range.filter _
  have hle1 : ((List.range n).filter (upB f)).length ≤ ((List.range n).filter fun v => (f v).isSome && !upB f v).length := by
    refine inj_len (fun v => (f v).getD 0) _ _ hnd1 (fun v hv => ?_) (fun v hv u hu e => ?_)
    · obtain ⟨h1, x, h2, h3⟩ := (hmem1 v).1 hv
      rw [h2]
      exact (hmem2 x).2 ⟨(M.lt _ _ h2).2, v, M.sym _ _ h2, h3⟩
    · obtain ⟨_, x, h2, _⟩ := (hmem1 v).1 hv
      obtain ⟨_, y, h3, _⟩ := (hmem1 u).1 hu
      rw [h2, h3] at e
      simp only [Option.getD_some] at e
      subst e
      have a := M.sym _ _ h2
      have b := M.sym _ _ h3
      rw [a] at b; injection b
  have hle2 : ((List.range n).filter fun v => (f v).isSome && !upB f v).length ≤ ((List.range n).filter (upB f)).length := by
    refine inj_len (fun v => (f v).getD 0) _ _ hnd2 (fun v hv => ?_) (fun v hv u hu e => ?_)
    · obtain ⟨h1, x, h2, h3⟩ := (hmem2 v).1 hv
      rw [h2]
      exact (hmem1 x).2 ⟨(M.lt _ _ h2).2, v, M.sym _ _ h2, h3⟩
    · obtain ⟨_, x, h2, _⟩ := (hmem2 v).1 hv
      obtain ⟨_, y, h3, _⟩ := (hmem2 u).1 hu
      rw [h2, h3] at e
      simp only [Option.getD_some] at e
      subst e
      have a := M.sym _ _ h2
      have b := M.sym _ _ h3
      rw [a] at b; injection b
  unfold sizeOf'
  rw [h1, hsplit]; omega

def EdRel (w : World) (n : Nat) (f : Nat → Option Nat) (g : Nat) (x x3 : Value) (wr : World) : Prop :=
  ∃ (k : Nat) (A : Option Addr) (c : Nat), x = .int .i64 (k : Int) ∧ x3 = .slice A (ups f k).length c ∧ k ≤ n ∧ g = n - k ∧ Ow wr 2 A (ups f k).length c (cellsOf (ups f k)) ∧ (∀ b, InA A b → w.heap.size ≤ b) ∧ Fr No w wr

theorem edges_spec {Am : Option Addr} {cm : Nat} {f : Nat → Option Nat} {adj : Nat → Nat → Prop} (hn : n ≤ 4096) (M : Mat n adj f) (hO : Ow w 1 Am n cm (mv n f)) :
    Calls Try.prog 41 #[.slice Am n cm] w (fun e w' => (∃ A c, e = .returned (.slice A (ups f n).length c)) ∧ Fr No w w') := by
  obtain ⟨i0, hi, hz0, hz1, hz2⟩ := info_parts info_edge
  have HO := Lib.hid hO
  have HM := Lib.hid M
  clear hO M
  go_enter Try.func41, Try.ntmps41
  go_wp2_with fail
  go_loopg [4, 3] n (EdRel w n f)
  case atStart => exact ⟨0, none, 0, rfl, rfl, by omega, rfl, Ow.nil_ _ _, (fun x ⟨ad, h, _⟩ => by cases h), Fr.refl _ _⟩
  case round =>
    obtain ⟨k, A, c, rfl, rfl, hk, hg, hL, hA, hfr⟩ := hrel
    have HGK := Lib.hid hg
    have hul := ups_len f k
    have HS := Lib.hid (ups_succ f k)
    clear hg
    by_cases hlt : k < n
    · have hOr := HO.out.fr hfr fun _ _ => id
      obtain ⟨bm, om, rfl⟩ := hOr.some (by omega)
      have c1 := (hOr.cellAt (mv_get (f := f) hlt)).1
      have hki : (k : Int) < (n : Int) := by omega
      generalize hU : ups f k = U at hL hul HS ⊢
      clear hU
      cases hfk : f k with
      | none =>
        rw [hfk] at c1
        simp only [ev] at c1
        have HB := Lib.hid (show upB f k = false from by unfold upB; rw [hfk])
        have HL := Lib.hid hL
        clear hOr hfk hL
        go_wp2_with fail
        go_roundg (n - (k + 1))
        case measure => rw [HGK.out]; omega
        case rel => exact ⟨k + 1, A, c, rfl, by rw [HS.out, HB.out]; simp, by omega, rfl, by rw [HS.out, HB.out]; simpa using HL.out, hA, hfr⟩
      | some u =>
        have hu := (HM.out.lt k u hfk).2
        have c2 := (hOr.cellAt (mv_get (f := f) hu)).1
        rw [HM.out.sym _ _ hfk] at c2
        rw [hfk] at c1
        simp only [ev] at c1 c2
        have hui : (u : Int) < (n : Int) := by omega
        by_cases hku : k < u
        · have d1 : decide (k < u) = true := by simp [hku]
          have d2 : decide (u < n) = true := by simp [hu]
          have d3 : ((k : Int) == (k : Int)) = true := by simp
          have HB := Lib.hid (show upB f k = true ∧ (f k).getD 0 = u from by unfold upB; rw [hfk]; exact ⟨by simpa using hku, rfl⟩)
          clear hOr hfk hku
          go_wp2_with (at_builtin; refine wpList_append_to rfl (.tmp 33) (.tmp 37) 23 rfl 56 i0 (.agg #[.int .i64 0, .int .i64 0]) 2 16 Try.underlying23 hi hz0 hz1 hz2 rfl (by decide) (U.length + 1) (cellsOf (U ++ [(k, u)])) rfl (hL.fr ((Fr.refl No _).alloc _) fun _ _ => id) rfl (Rd.new2 _ _ _ _) one_iv2 rfl (by rw [cellsOf_append]; rfl) (by omega) (by simp only [maxLen]; omega) ?_; intro A5 c5 w5 hO5 hfr5 hA5)
          have hfr6 : Fr No w w5 := (hfr.alloc _).new hfr5 hA
          have hA6 : ∀ b, InA A5 b → w.heap.size ≤ b := fun b hb => (hA5 b hb).elim (hA b) fun h => Nat.le_trans (hfr.alloc _).size h
          have HO5 := Lib.hid hO5
          clear hL hO5 hfr5 hA5 hfr c1 c2 d1 d2 d3
          go_roundg (n - (k + 1))
          case measure => rw [HGK.out]; omega
          case rel => exact ⟨k + 1, A5, c5, rfl, by rw [HS.out, HB.out.1, HB.out.2]; simp, by omega, rfl, by rw [HS.out, HB.out.1, HB.out.2]; simpa using HO5.out, hA6, hfr6⟩
        · have d1 : decide (k < u) = false := by simp [hku]
          have HB := Lib.hid (show upB f k = false from by unfold upB; rw [hfk]; simpa using hku)
          have HL := Lib.hid hL
          clear hOr hfk hku hL
          go_wp2_with fail
          go_roundg (n - (k + 1))
          case measure => rw [HGK.out]; omega
          case rel => exact ⟨k + 1, A, c, rfl, by rw [HS.out, HB.out]; simp, by omega, rfl, by rw [HS.out, HB.out]; simpa using HL.out, hA, hfr⟩
    · have : k = n := by omega
      subst this
      clear hL
      go_wp2_with fail
      go_ret
      exact ⟨⟨A, c, rfl⟩, hfr⟩

theorem size8_spec {Am : Option Addr} {cm : Nat} {f : Nat → Option Nat} {adj : Nat → Nat → Prop} (hn : n ≤ 4096) (G : Gr n adj) (M : Mat n adj f) (hO : Ow w 1 Am n cm (mv n f)) :
    Calls Try.prog 21 #[.slice Am n cm] w (fun e w' => e = .returned (.int .i64 ((sizeOf' n f : Nat) : Int)) ∧ Fr No w w') := by
  have HE := Lib.hid (ups_size G M)
  have HM := Lib.hid M
  have HO := Lib.hid hO
  clear G M hO
  go_enter Try.func21, Try.ntmps21
  go_wp2_with (go_at_call 41; refine (edges_spec hn HM.out HO.out).mono ?_; rintro e w' ⟨⟨A, c, rfl⟩, hfr⟩; rw [HE.out])
  go_ret
  exact ⟨rfl, hfr⟩
end Gar

namespace Gar
open Go Go.RowKit Go.Proofs
set_option maxRecDepth 100000
set_option maxHeartbeats 1600000
variable {w : World} {n : Nat} {es : List (Nat × Nat)}

theorem shows13_spec {Ae Am Ao : Option Addr} {ce cm co : Nat} {b : List Nat} {f : Nat → Option Nat} (hG : Good n es) (G : Gr n (adjOf es)) (hR : Rd w 2 Ae es.length (cellsOf es)) (M : Mat n (adjOf es) f) (hO : Ow w 1 Am n cm (mv n f)) (hA : 0 < n → ∃ b, Am = some ⟨b, 0, none⟩)
    (hnd : b.Nodup) (hbn : ∀ v ∈ b, v < n) (hb : Rd w 1 Ao b.length (b.map iv)) (hco : b.length ≤ co) (hh : ∀ L, Pieces n (adjOf es) (fun v => v < n ∧ v ∉ b) L → (n : Int) - (((sumOdd L : Nat) : Int) - (b.length : Int)) = ((2 * sizeOf' n f : Nat) : Int)) :
    Calls Try.prog 12 #[.agg #[.int .i64 (n : Int), .slice Ae es.length ce], .slice Am n cm, .slice Ao b.length co] w (fun e w' => e = .returned (.bool true) ∧ Fr No w w') := by
  have hn := hG.n_le
  have f1 : Fr No w (w.alloc (.cells #[.int .i64 (n : Int), .slice Ae es.length ce] 25)) := (Fr.refl _ _).alloc _
  have cg := Cs.new w 25 #[.int .i64 (n : Int), .slice Ae es.length ce]
  have g0 := cg.cell 0
  have g1 := cg.cell 1
  simp only [List.getElem?_toArray, List.getElem?_cons_zero, List.getElem?_cons_succ] at g0 g1
  have HG := Lib.hid hG
  have HGr := Lib.hid G
  have HR := Lib.hid (hR.fr f1 fun _ _ => id)
  have HB := Lib.hid (hb.fr f1 fun _ _ => id)
  have HO := Lib.hid (hO.fr f1 fun _ _ => id)
  have HX := Lib.hid (show Mat n (adjOf es) f ∧ (0 < n → ∃ b, Am = some ⟨b, 0, none⟩) ∧ b.Nodup ∧ (∀ v ∈ b, v < n) from ⟨M, hA, hnd, hbn⟩)
  have HH := Lib.hid hh
  clear hR hG G hb hnd hbn cg hO M hA hh
  go_enter Try.func12, Try.ntmps12
  go_upto_region 1 with (fail)
  generalize w.alloc (.cells #[.int .i64 (n : Int), .slice Ae es.length ce] 25) = w1 at f1 g0 g1 HR HB HO ⊢
  generalize w.heap.size = b3 at g0 g1 ⊢
  go_wp2_with fail
  refine (lack_spec HG.out HR.out HX.out.2.2.1 HX.out.2.2.2 HB.out hco).mono ?_
  rintro e w2 ⟨L, hP, rfl, hfr2⟩
  have hl := HH.out L hP
  have g0 := hfr2.cell g0 id
  have g1 := hfr2.cell g1 id
  have f2 := f1.step hfr2
  have HR2 := Lib.hid (HR.out.fr hfr2 fun _ _ => id)
  have HO2 := Lib.hid (HO.out.fr hfr2 fun _ _ => id)
  have hsz := sizeOf_le n f
  clear hfr2 f1 hP
  generalize ((sumOdd L : Nat) : Int) - (b.length : Int) = lk at hl ⊢
  generalize hs : sizeOf' n f = s at hl hsz
  obtain ⟨D, hD⟩ : ∃ D, D = 2 * s := ⟨_, rfl⟩
  rw [← hD] at hl
  have hmul : 2 * (s : Int) = (D : Int) := by omega
  have hwr : IntKind.i64.wrap (D : Int) = (D : Int) := by rw [IntKind.wrap_i64]; omega
  have HS := Lib.hid hs
  clear hD hs
  go_wp2_with fail
  go_region_held3 (fun w' => w'.cell? ⟨b3, 0, none⟩ = some (.int .i64 (n : Int)) ∧ w'.cell? ⟨b3, 1, none⟩ = some (.slice Ae es.length ce))
    (first | (simp [*]; done) | (exact ⟨s1, s2⟩))
    (first
      | (go_at_call 32; refine (right8_spec HG.out (HR2.out.fr ((Fr.refl No _).drew) fun _ _ => id) HX.out.1 (HO2.out.fr ((Fr.refl No _).drew) fun _ _ => id)).mono ?_; rintro e w5 ⟨rfl, hfr5⟩; have d5 : Fr No w2 w5 := (Fr.refl No w2).drew.step hfr5; have s1 := d5.cell g0 id; have s2 := d5.cell g1 id)
      | (go_at_call 21; refine (size8_spec (by omega) HGr.out HX.out.1 (HO2.out.fr d5 fun _ _ => id)).mono ?_; rintro e w6 ⟨rfl, hfr6⟩; rw [HS.out]; have d6 : Fr No w2 w6 := d5.step hfr6; have s1 := d6.cell g0 id; have s2 := d6.cell g1 id))
  go_wp2_with fail
  go_ret
  exact ⟨rfl, f2.step d6⟩
end Gar
