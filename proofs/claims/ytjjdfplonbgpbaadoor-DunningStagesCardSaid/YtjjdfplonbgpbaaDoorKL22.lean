/- The rules of a walk. -/
import Derived.Test.YtjjdfplonbgpbaaDoorKL21
set_option linter.unusedVariables false
set_option linter.unusedSimpArgs false
namespace Go.KL
open Go Go.RowKit

section
variable {E : Env} {n0 m0 : Nat} {fr : List (Nat × D)} {S : List O} {tk : Tks} {st : St}

theorem aq1_pure {i : Ins} {K : D → Prop} (hi : isPure i = true) : aq1 E i fr S tk K = match pv E fr S i with
    | some d => K d
    | none => False := by
  cases i <;> first | rfl | (simp [isPure] at hi)
theorem lk {S J : List O} (k : Nat) : (S ++ J)[S.length + k]? = J[k]? := by
  rw [List.getElem?_append_right (by omega)]; congr 1; omega
theorem lk0 {S J : List O} : (S ++ J)[S.length]? = J[0]? := lk (S := S) (J := J) 0
theorem lkold {S J : List O} {id : Nat} {o : O} (h : S[id]? = some o) : (S ++ J)[id]? = some o := by
  rw [List.getElem?_append_left (List.getElem?_eq_some_iff.1 h).1]; exact h
theorem ls {S J : List O} (k : Nat) (o : O) : (S ++ J).set (S.length + k) o = S ++ J.set k o := by
  rw [List.set_append_right _ _ (by omega)]; congr 2; omega
theorem ls0 {S J : List O} (o : O) : (S ++ J).set S.length o = S ++ J.set 0 o := ls (S := S) (J := J) 0 o
theorem tkk {T J : Tks} (k : Nat) : (T ++ J)[T.length + k]? = J[k]? := by
  rw [List.getElem?_append_right (by omega)]; congr 1; omega
theorem tkk0 {T J : Tks} : (T ++ J)[T.length]? = J[0]? := tkk (T := T) (J := J) 0
theorem tks {T J : Tks} (k : Nat) (o : Nat × TypeId × Nat) : (T ++ J).set (T.length + k) o = T ++ J.set k o := by
  rw [List.set_append_right _ _ (by omega)]; congr 2; omega
theorem tks0 {T J : Tks} (o : Nat × TypeId × Nat) : (T ++ J).set T.length o = T ++ J.set 0 o := tks (T := T) (J := J) 0 o


end
end Go.KL
