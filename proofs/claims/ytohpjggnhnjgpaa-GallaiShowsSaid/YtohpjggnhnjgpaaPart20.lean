/-
  PROVED: lemmas of the claim; no condition beyond what each one states.
  Walks: bits.Mul, of 1 and a small number.
-/
import Derived.Test.YtohpjggnhnjgpaaPart19
import Derived.Lib.Mul64
import Derived.Laws.Bits64b
import Derived.Shelf.Bits.Mul64
set_option linter.unusedVariables false
set_option linter.unusedSimpArgs false

namespace Gar
open Go Go.RowKit Go.Proofs
set_option maxRecDepth 100000
set_option maxHeartbeats 1600000
variable {w : World} {n : Nat}

theorem mul64_spec (hn : n ≤ 4096) : Calls Try.prog 90 #[.int .u64 1, .int .u64 (n : Int)] w (fun e w' => e = .returned (.tuple #[.int .u64 0, .int .u64 (n : Int)]) ∧ w' = w) := by
  have m1 : bits .and .u64 1 4294967295 = 1 := by
    have := Mul64.maskN 1 (by omega)
    simpa using this
  have m2 : bits .and .u64 (n : Int) 4294967295 = (n : Int) := by
    rw [Mul64.maskN n (by omega), Nat.mod_eq_of_lt (by omega)]
  have m0 : bits .and .u64 0 4294967295 = 0 := by
    have := Mul64.maskN 0 (by omega)
    simpa using this
  have d1 : (n : Int) / 4294967296 = 0 := by omega
  have w0 : IntKind.u64.wrap 0 = 0 := by decide
  have w1 : IntKind.u64.wrap (n : Int) = (n : Int) := by rw [IntKind.wrap_u64]; omega
  go_enter Try.func90, Try.ntmps90
  go_wp2
  go_ret2
  refine ⟨?_, rfl⟩
  simp [m0, m1, m2, d1, w0, w1]

theorem mul_spec (hn : n ≤ 4096) : Calls Try.prog 79 #[.int .u64 1, .int .u64 (n : Int)] w (fun e w' => e = .returned (.tuple #[.int .u64 0, .int .u64 (n : Int)]) ∧ w' = w) := by
  go_enter Try.func79, Try.ntmps79
  go_wp2_with (go_at_call 90; refine (mul64_spec hn).mono ?_; rintro e w' ⟨rfl, rfl⟩)
  go_ret2
  exact ⟨rfl, rfl⟩
end Gar
