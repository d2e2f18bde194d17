/- The program's surroundings. -/
import Derived.Test.YtmijcaccgbhgdaaDoorKL27
import Derived.Test.YtmijcaccgbhgdaaDoorProg
import Derived.KernelRfl
set_option linter.unusedVariables false
set_option linter.unusedSimpArgs false
namespace Go.KL.YtmijcaccgbhgdaaDoor
open Go Go.KL Go.RowKit Go.Proofs
noncomputable def E0 : Env where
  P := Tryd.prog
  G := fun g => if g = 0 then some [.int .i64 0, .int .i64 30, .int .i64 60, .int .i64 90] else none
  hG := by intro g e h n m; split at h <;> cases h; rfl
  hmix := by kernel_rfl

/-- what a call answers, where it changes nothing -/
def Pure (f : FuncId) (ds : List D) (d : D) : Prop := ∀ S tk, ACalls E0 f ds S tk (fun r S' tk' => r = d ∧ S' = S ∧ tk' = tk)

def i64s (l : List Int) : List (List D) := l.map fun n => [.int .i64 n]
theorem i64s_len (l : List Int) : (i64s l).length = l.length := List.length_map ..
theorem iaD_i64s {l : List Int} {n : Int} {a : Int} (h0 : 0 ≤ n) (he : l[n.toNat]? = some a) : iaD 1 (.sl (i64s l)) (.int .i64 n) = some (.pe [.int .i64 a] 0) := iaD_map (f := fun n => [.int .i64 n]) h0 he rfl

end Go.KL.YtmijcaccgbhgdaaDoor
