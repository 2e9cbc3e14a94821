/- Closed calls of the law of the examples. -/
import Derived.Test.YtphdemhopihpnaaLotAwake
namespace Go.Proofs.Ytphdemhopihpnaa.AM
open Go
set_option maxRecDepth 100000

theorem runCountE (b30 b58 b74 : Code) : runCall (TL b30 b58 b74 []) (callD (TL b30 b58 b74 []) 1000000 40) 1000000 [] 26 [drawE] [] = some (true, .tup [.i 0, .i 0], []) := by kernel_rfl
theorem knCountE (σ : List AObj) : AC Try.prog 26 [drawE] σ fun r τ => r = .tup [.i 0, .i 0] ∧ τ = σ := AC_run (Checked.mixed Try.checked) (TL_ok (k := []) trivial) 1000000 40 (runCountE _ _ _) rfl σ

theorem runPickD0 (b30 b58 b74 : Code) : runCall (TL b30 b58 b74 []) (callD (TL b30 b58 b74 []) 1000000 40) 1000000 [] 28 [drawD, .i 0] [] = some (true, .tup [.cv (.rsl [.int .i64 1, .int .i64 2, .int .i64 0] 3), .i 0], []) := by kernel_rfl
theorem knPickD0 (σ : List AObj) : AC Try.prog 28 [drawD, .i 0] σ fun r τ => r = .tup [.cv (.rsl [.int .i64 1, .int .i64 2, .int .i64 0] 3), .i 0] ∧ τ = σ := AC_run (Checked.mixed Try.checked) (TL_ok (k := []) trivial) 1000000 40 (runPickD0 _ _ _) rfl σ

theorem runPickD2 (b30 b58 b74 : Code) : runCall (TL b30 b58 b74 []) (callD (TL b30 b58 b74 []) 1000000 40) 1000000 [] 28 [drawD, .i 2] [] = some (true, .tup [.cv (.rsl [.int .i64 2, .int .i64 2, .int .i64 0] 3), .i 0], []) := by kernel_rfl
theorem knPickD2 (σ : List AObj) : AC Try.prog 28 [drawD, .i 2] σ fun r τ => r = .tup [.cv (.rsl [.int .i64 2, .int .i64 2, .int .i64 0] 3), .i 0] ∧ τ = σ := AC_run (Checked.mixed Try.checked) (TL_ok (k := []) trivial) 1000000 40 (runPickD2 _ _ _) rfl σ

theorem runPickD3 (b30 b58 b74 : Code) : runCall (TL b30 b58 b74 []) (callD (TL b30 b58 b74 []) 1000000 40) 1000000 [] 28 [drawD, .i 3] [] = some (true, .tup [.cv (.rsl [.int .i64 1, .int .i64 2, .int .i64 0] 3), .i 0], []) := by kernel_rfl
theorem knPickD3 (σ : List AObj) : AC Try.prog 28 [drawD, .i 3] σ fun r τ => r = .tup [.cv (.rsl [.int .i64 1, .int .i64 2, .int .i64 0] 3), .i 0] ∧ τ = σ := AC_run (Checked.mixed Try.checked) (TL_ok (k := []) trivial) 1000000 40 (runPickD3 _ _ _) rfl σ

theorem runIndexD2 (b30 b58 b74 : Code) : runCall (TL b30 b58 b74 []) (callD (TL b30 b58 b74 []) 1000000 40) 1000000 [] 30 [drawD, .cv (.rsl [.int .i64 1, .int .i64 1, .int .i64 0] 3)] [] = some (true, .tup [.i 0, .i 2], []) := by kernel_rfl
theorem knIndexD2 (σ : List AObj) : AC Try.prog 30 [drawD, .cv (.rsl [.int .i64 1, .int .i64 1, .int .i64 0] 3)] σ fun r τ => r = .tup [.i 0, .i 2] ∧ τ = σ := AC_run (Checked.mixed Try.checked) (TL_ok (k := []) trivial) 1000000 40 (runIndexD2 _ _ _) rfl σ

theorem runShortD (b30 b58 b74 : Code) : runCall (TL b30 b58 b74 []) (callD (TL b30 b58 b74 []) 1000000 40) 1000000 [] 32 [drawD] [] = some (true, .tup [.cv .nils, .i 0], []) := by kernel_rfl
theorem knShortD (σ : List AObj) : AC Try.prog 32 [drawD] σ fun r τ => r = .tup [.cv .nils, .i 0] ∧ τ = σ := AC_run (Checked.mixed Try.checked) (TL_ok (k := []) trivial) 1000000 40 (runShortD _ _ _) rfl σ

theorem runHonestD2 (b30 b58 b74 : Code) : runCall (TL b30 b58 b74 []) (callD (TL b30 b58 b74 []) 1000000 40) 1000000 [] 34 [drawD, .cv (.rsl [.int .i64 152436061] 1), .cv (.rsl [.int .i64 0] 1), .cv (.rsl [.int .i64 1, .int .i64 2, .int .i64 0] 3)] [] = some (true, .tup [.b false, .i 0], []) := by kernel_rfl
theorem knHonestD2 (σ : List AObj) : AC Try.prog 34 [drawD, .cv (.rsl [.int .i64 152436061] 1), .cv (.rsl [.int .i64 0] 1), .cv (.rsl [.int .i64 1, .int .i64 2, .int .i64 0] 3)] σ fun r τ => r = .tup [.b false, .i 0] ∧ τ = σ := AC_run (Checked.mixed Try.checked) (TL_ok (k := []) trivial) 1000000 40 (runHonestD2 _ _ _) rfl σ

def knKnown : Kn := (23, [], .b true) :: [(26, [drawE], .tup [.i 0, .i 0]), (28, [drawD, .i 0], .tup [.cv (.rsl [.int .i64 1, .int .i64 2, .int .i64 0] 3), .i 0]), (28, [drawD, .i 2], .tup [.cv (.rsl [.int .i64 2, .int .i64 2, .int .i64 0] 3), .i 0]), (28, [drawD, .i 3], .tup [.cv (.rsl [.int .i64 1, .int .i64 2, .int .i64 0] 3), .i 0]), (30, [drawD, .cv (.rsl [.int .i64 1, .int .i64 1, .int .i64 0] 3)], .tup [.i 0, .i 2]), (32, [drawD], .tup [.cv .nils, .i 0]), (34, [drawD, .cv (.rsl [.int .i64 152436061] 1), .cv (.rsl [.int .i64 0] 1), .cv (.rsl [.int .i64 1, .int .i64 2, .int .i64 0] 3)], .tup [.b false, .i 0])] ++ knAwake
theorem knKnown_ok : KnOk Try.prog knKnown := ⟨⟨rfl, awake⟩, ⟨rfl, knCountE⟩, ⟨rfl, knPickD0⟩, ⟨rfl, knPickD2⟩, ⟨rfl, knPickD3⟩, ⟨rfl, knIndexD2⟩, ⟨rfl, knShortD⟩, ⟨rfl, knHonestD2⟩, knAwake_ok⟩

end Go.Proofs.Ytphdemhopihpnaa.AM
