/- Closed calls of the lot layer, answered by the evaluator. -/
import Derived.Test.YtphdemhopihpnaaLotTab
namespace Go.Proofs.Ytphdemhopihpnaa.AM
open Go
set_option maxRecDepth 100000

def drawD : AV := .agg [.cv (.rsl [.int .i64 1, .int .i64 1, .int .i64 2] 3), .cv (.rsl [.int .i64 1, .int .i64 1, .int .i64 6] 3)]
def drawE : AV := .agg [.cv (.rsl [.int .i64 1, .int .i64 1, .int .i64 2] 3), .cv (.rsl [.int .i64 1, .int .i64 1, .int .i64 6, .int .i64 6] 4)]
def TL (b30 b58 b74 : Code) (k : Kn) : Tb := ⟨tget (lotTab b30 b58 b74), k⟩
theorem TL_ok {k : Kn} (hk : KnOk Try.prog k) : TbOk Try.prog (TL (Try.f30.body.getD .skip) (Try.f58.body.getD .skip) (Try.f74.body.getD .skip) k) := ⟨fun _ _ h => TOk.get lotTab_ok _ _ h, hk⟩

theorem runShortE (b30 b58 b74 : Code) : runCall (TL b30 b58 b74 []) (callD (TL b30 b58 b74 []) 1000000 40) 1000000 [] 32 [drawE] [] = some (true, .tup [.cv (.rsl [.int .i64 2, .int .i64 3] 2), .i 0], []) := by kernel_rfl
theorem knShortE (σ : List AObj) : AC Try.prog 32 [drawE] σ fun r τ => r = .tup [.cv (.rsl [.int .i64 2, .int .i64 3] 2), .i 0] ∧ τ = σ := AC_run (Checked.mixed Try.checked) (TL_ok (k := []) trivial) 1000000 40 (runShortE _ _ _) rfl σ

theorem runCountD (b30 b58 b74 : Code) : runCall (TL b30 b58 b74 []) (callD (TL b30 b58 b74 []) 1000000 40) 1000000 [] 26 [drawD] [] = some (true, .tup [.i 3, .i 0], []) := by kernel_rfl
theorem knCountD (σ : List AObj) : AC Try.prog 26 [drawD] σ fun r τ => r = .tup [.i 3, .i 0] ∧ τ = σ := AC_run (Checked.mixed Try.checked) (TL_ok (k := []) trivial) 1000000 40 (runCountD _ _ _) rfl σ

theorem runPickD1 (b30 b58 b74 : Code) : runCall (TL b30 b58 b74 []) (callD (TL b30 b58 b74 []) 1000000 40) 1000000 [] 28 [drawD, .i 1] [] = some (true, .tup [.cv (.rsl [.int .i64 2, .int .i64 1, .int .i64 0] 3), .i 0], []) := by kernel_rfl
theorem knPickD1 (σ : List AObj) : AC Try.prog 28 [drawD, .i 1] σ fun r τ => r = .tup [.cv (.rsl [.int .i64 2, .int .i64 1, .int .i64 0] 3), .i 0] ∧ τ = σ := AC_run (Checked.mixed Try.checked) (TL_ok (k := []) trivial) 1000000 40 (runPickD1 _ _ _) rfl σ

theorem runIndexD (b30 b58 b74 : Code) : runCall (TL b30 b58 b74 []) (callD (TL b30 b58 b74 []) 1000000 40) 1000000 [] 30 [drawD, .cv (.rsl [.int .i64 2, .int .i64 1, .int .i64 0] 3)] [] = some (true, .tup [.i 1, .i 0], []) := by kernel_rfl
theorem knIndexD (σ : List AObj) : AC Try.prog 30 [drawD, .cv (.rsl [.int .i64 2, .int .i64 1, .int .i64 0] 3)] σ fun r τ => r = .tup [.i 1, .i 0] ∧ τ = σ := AC_run (Checked.mixed Try.checked) (TL_ok (k := []) trivial) 1000000 40 (runIndexD _ _ _) rfl σ

theorem runHonestD (b30 b58 b74 : Code) : runCall (TL b30 b58 b74 []) (callD (TL b30 b58 b74 []) 1000000 40) 1000000 [] 34 [drawD, .cv (.rsl [.int .i64 152436061] 1), .cv (.rsl [.int .i64 0] 1), .cv (.rsl [.int .i64 2, .int .i64 1, .int .i64 0] 3)] [] = some (true, .tup [.b true, .i 0], []) := by kernel_rfl
theorem knHonestD (σ : List AObj) : AC Try.prog 34 [drawD, .cv (.rsl [.int .i64 152436061] 1), .cv (.rsl [.int .i64 0] 1), .cv (.rsl [.int .i64 2, .int .i64 1, .int .i64 0] 3)] σ fun r τ => r = .tup [.b true, .i 0] ∧ τ = σ := AC_run (Checked.mixed Try.checked) (TL_ok (k := []) trivial) 1000000 40 (runHonestD _ _ _) rfl σ

theorem runPickE0 (b30 b58 b74 : Code) : runCall (TL b30 b58 b74 []) (callD (TL b30 b58 b74 []) 1000000 40) 1000000 [] 28 [drawE, .i 0] [] = some (true, .tup [.cv .nils, .i 9], []) := by kernel_rfl
theorem knPickE0 (σ : List AObj) : AC Try.prog 28 [drawE, .i 0] σ fun r τ => r = .tup [.cv .nils, .i 9] ∧ τ = σ := AC_run (Checked.mixed Try.checked) (TL_ok (k := []) trivial) 1000000 40 (runPickE0 _ _ _) rfl σ

def knAwake : Kn := [(32, [drawE], .tup [.cv (.rsl [.int .i64 2, .int .i64 3] 2), .i 0]), (26, [drawD], .tup [.i 3, .i 0]), (28, [drawD, .i 1], .tup [.cv (.rsl [.int .i64 2, .int .i64 1, .int .i64 0] 3), .i 0]), (30, [drawD, .cv (.rsl [.int .i64 2, .int .i64 1, .int .i64 0] 3)], .tup [.i 1, .i 0]), (34, [drawD, .cv (.rsl [.int .i64 152436061] 1), .cv (.rsl [.int .i64 0] 1), .cv (.rsl [.int .i64 2, .int .i64 1, .int .i64 0] 3)], .tup [.b true, .i 0]), (28, [drawE, .i 0], .tup [.cv .nils, .i 9])]
theorem knAwake_ok : KnOk Try.prog knAwake := ⟨⟨rfl, knShortE⟩, ⟨rfl, knCountD⟩, ⟨rfl, knPickD1⟩, ⟨rfl, knIndexD⟩, ⟨rfl, knHonestD⟩, ⟨rfl, knPickE0⟩, trivial⟩

theorem runAwake (b30 b58 b74 : Code) : runCall (TL b30 b58 b74 knAwake) (callD (TL b30 b58 b74 knAwake) 1000000 40) 1000000 [] 23 [] [] = some (true, .b true, []) := by kernel_rfl
/-- Awake returns true, wherever it is called. -/
theorem awake (σ : List AObj) : AC Try.prog 23 [] σ fun r τ => r = .b true ∧ τ = σ := AC_run (Checked.mixed Try.checked) (TL_ok knAwake_ok) 1000000 40 (runAwake _ _ _) rfl σ

end Go.Proofs.Ytphdemhopihpnaa.AM
