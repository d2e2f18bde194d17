/- package invoices and its reference: the small functions -/
import Derived.Test.YtmijcaccgbhgdaaDoorRef07
set_option linter.unusedVariables false
set_option linter.unusedSimpArgs false
set_option maxRecDepth 4000
namespace Go.KL.YtmijcaccgbhgdaaDoor
open Go Go.KL Go.RowKit Go.Proofs

theorem c26 : cFun E0.P 26 = some ⟨9, [(2, none)], .seq (.rg [⟨some 2, none, .mv (.k (.bool false))⟩]) (.seq (.rg [⟨some 3, none, .mv (.t 0)⟩, ⟨some 4, none, .bin .geq .leaf (.t 3) (.k (.int .i64 1))⟩, ⟨some 5, none, .mv (.t 4)⟩, ⟨some 6, some (5, true), .mv (.t 0)⟩, ⟨some 7, some (5, true), .bin .leq .leaf (.t 6) (.k (.int .i64 3652059))⟩, ⟨some 8, none, .pick (.t 5) (.t 7) (.k (.bool false))⟩, ⟨some 2, none, .mv (.t 8)⟩]) .ret)⟩ := by kernel_rfl
theorem c31 : cFun E0.P 31 = some ⟨12, [(4, none)], .seq (.rg [⟨some 4, none, .mv (.k (.bool false))⟩]) (.seq (.rg [⟨some 5, none, .mv (.t 0)⟩, ⟨some 6, none, .bin .geq .leaf (.t 5) (.k (.int .i64 0))⟩, ⟨some 7, none, .mv (.t 6)⟩, ⟨some 8, some (7, true), .mv (.t 0)⟩, ⟨some 9, some (7, true), .mv (.t 1)⟩, ⟨some 10, some (7, true), .bin .leq .leaf (.t 8) (.t 9)⟩, ⟨some 11, none, .pick (.t 7) (.t 10) (.k (.bool false))⟩, ⟨some 4, none, .mv (.t 11)⟩]) .ret)⟩ := by kernel_rfl
theorem c25 : cFun E0.P 25 = some ⟨34, [(2, none)], .seq (.rg [⟨some 2, none, .mv (.k (.bool false))⟩]) (.seq (.seq (.rg [⟨some 3, none, .mv (.k (.int .i64 0))⟩]) (.block 0 (.loop (.seq (.seq (.rg [⟨some 4, none, .mv (.t 3)⟩, ⟨some 5, none, .bin .add .leaf (.t 4) (.k (.int .i64 2))⟩, ⟨some 6, none, .mv (.t 0)⟩, ⟨some 7, none, .len 1 (.t 6)⟩, ⟨some 8, none, .bin .lss .leaf (.t 5) (.t 7)⟩]) (.cond (.t 8) .skip (.exit 0))) (.seq (.block 1 (.seq (.rd [(⟨some 11, none, .mv (.t 0)⟩, false), (⟨some 12, none, .mv (.t 3)⟩, false), (⟨some 13, none, .bin .add .leaf (.t 12) (.k (.int .i64 1))⟩, false), (⟨some 14, none, .ia 1 (.t 11) (.t 13)⟩, false), (⟨some 15, none, .ld 1 false (.t 14)⟩, false), (⟨some 16, none, .mv (.t 0)⟩, false), (⟨some 17, none, .mv (.t 3)⟩, false), (⟨some 18, none, .ia 1 (.t 16) (.t 17)⟩, false), (⟨some 19, none, .ld 1 false (.t 18)⟩, false), (⟨some 20, none, .bin .lss .leaf (.t 15) (.t 19)⟩, false), (⟨some 21, none, .mv (.t 20)⟩, false), (⟨some 22, some (21, false), .mv (.t 0)⟩, false), (⟨some 23, some (21, false), .mv (.t 3)⟩, false), (⟨some 24, some (21, false), .bin .add .leaf (.t 23) (.k (.int .i64 1))⟩, false), (⟨some 25, some (21, false), .ia 1 (.t 22) (.t 24)⟩, false), (⟨some 26, some (21, false), .ld 1 false (.t 25)⟩, false), (⟨some 27, some (21, false), .mv (.t 0)⟩, false), (⟨some 28, some (21, false), .mv (.t 3)⟩, false), (⟨some 29, some (21, false), .bin .add .leaf (.t 28) (.k (.int .i64 2))⟩, false), (⟨some 30, some (21, false), .ia 1 (.t 27) (.t 29)⟩, false), (⟨some 31, some (21, false), .ld 1 false (.t 30)⟩, false), (⟨some 32, some (21, false), .bin .gtr .leaf (.t 26) (.t 31)⟩, false), (⟨some 33, none, .pick (.t 21) (.k (.bool true)) (.t 32)⟩, false)]) (.cond (.t 33) (.seq (.rg [⟨some 2, none, .mv (.k (.bool false))⟩]) .ret) .skip))) (.rg [⟨some 9, none, .mv (.t 3)⟩, ⟨some 10, none, .bin .add .leaf (.t 9) (.k (.int .i64 3))⟩, ⟨some 3, none, .mv (.t 10)⟩])))))) (.seq (.rg [⟨some 2, none, .mv (.k (.bool true))⟩]) .ret))⟩ := by kernel_rfl

theorem day (n : Int) : Pure 26 [.int .i64 n] (.bool (decide (1 ≤ n ∧ n ≤ 3652059))) := by
  intro S tk
  refine ACalls.fgo c26 rfl fun hS => ?_
  repeat' refine bs_i (fun h => ?_) (fun h => ?_)
  all_goals refine ffin _ rfl rfl hS (Sub.refl _) rfl ⟨?_, rfl, rfl⟩
  all_goals (simp at *; simp only [tupD, D.bool.injEq]; simp; omega)
theorem part (n m : Int) : Pure 31 [.int .i64 n, .int .i64 m] (.bool (decide (0 ≤ n ∧ n ≤ m))) := by
  intro S tk
  refine ACalls.fgo c31 rfl fun hS => ?_
  repeat' refine bs_i (fun h => ?_) (fun h => ?_)
  all_goals refine ffin _ rfl rfl hS (Sub.refl _) rfl ⟨?_, rfl, rfl⟩
  all_goals (simp at *; simp only [tupD, D.bool.injEq]; simp; omega)
def withinS : List Int → Bool
  | a :: b :: c :: r => if b < a ∨ c < b then false else withinS r
  | _ => true
theorem withinS_cons (a b c : Int) (r : List Int) : withinS (a :: b :: c :: r) = (decide (a ≤ b ∧ b ≤ c) && withinS r) := by
  simp only [withinS]
  by_cases h : b < a ∨ c < b
  · rw [if_pos h, decide_eq_false (by omega)]; rfl
  · rw [if_neg h, decide_eq_true (by omega)]; rfl
theorem withinS_nil : withinS [] = true := rfl
theorem within (l : List Int) (hl : l.length < 4611686018427387904) : Pure 25 [.sl (i64s l)] (.bool (withinS l)) := by
  intro S tk
  refine ACalls.withSc fun hsc => ?_
  refine ACalls.fgo c25 rfl fun hS => ?_
  refine floop (α := Nat) rfl rfl hS (fun i => i ≤ l.length + 2 ∧ withinS (l.drop i) = withinS l) (fun i => l.length + 2 - i) (fun i => [(3, .d (.int .i64 i)), (0, .d (.sl (i64s l)))]) (fun _ => []) (fun _ => []) 0 ⟨by omega, rfl⟩ (fstep_sub ⟨Sub.refl _, Sub.refl _, trivial⟩) ?_
  rintro i ⟨hi, hw⟩
  refine bs_i (fun h => ?_) (fun h => ?_)
  · rw [i64s_len] at h
    simp only [wi64, decide_eq_true_eq] at h
    have hi2 : i + 2 < l.length := by omega
    obtain ⟨a, b, c, r, hd⟩ : ∃ a b c r, l.drop i = a :: b :: c :: r := by
      refine ⟨l[i], l[i+1], l[i+2], l.drop (i+3), ?_⟩
      rw [List.drop_eq_getElem_cons (by omega), List.drop_eq_getElem_cons (by omega), List.drop_eq_getElem_cons (by omega)]
    have ha : ∀ (j : Nat), l[i + j]? = (a :: b :: c :: r)[j]? := fun j => by rw [← hd, List.getElem?_drop]
    have h1 : IntKind.i64.wrap (i + 1) = ((i + 1 : Nat) : Int) := by rw [wi64]; omega
    have h2 : IntKind.i64.wrap (i + 2) = ((i + 2 : Nat) : Int) := by rw [wi64]; omega
    have h3 : IntKind.i64.wrap (i + 3) = ((i + 3 : Nat) : Int) := by rw [wi64]; omega
    have hr : l.drop (i + 3) = r := by rw [← List.drop_drop, hd]; rfl
    refine pK_i (iaD_i64s (a := b) (by rw [h1]; omega) (by rw [h1]; exact ha 1)) ?_
    refine pK_i (iaD_i64s (a := a) (by omega) (ha 0)) ?_
    refine bs_i (fun q => ?_) (fun q => ?_)
    · refine ffin _ rfl rfl hS (Sub.refl _) rfl ⟨?_, rfl, rfl⟩
      rw [← hw, hd]; simp at q; simp [withinS, q, tupD]
    · refine pK_i (iaD_i64s (a := b) (by rw [h1]; omega) (by rw [h1]; exact ha 1)) ?_
      refine pK_i (iaD_i64s (a := c) (by rw [h2]; omega) (by rw [h2]; exact ha 2)) ?_
      refine bs_i (fun q2 => ?_) (fun q2 => ?_)
      · refine ffin _ rfl rfl hS (Sub.refl _) rfl ⟨?_, rfl, rfl⟩
        rw [← hw, hd]; simp at q q2; simp [withinS, q, q2, tupD]
      · refine fnext (i + 3) ⟨by omega, ?_⟩ (by omega) (fstep_sub ⟨Sub.int h3, Sub.refl _, trivial⟩)
        rw [← hw, hd, hr]; simp at q q2; simp [withinS]; omega
  · rw [i64s_len] at h
    simp only [wi64, decide_eq_false_iff_not] at h
    refine ffin _ rfl rfl hS (Sub.refl _) rfl ⟨?_, rfl, rfl⟩
    rw [← hw]
    have : (l.drop i).length ≤ 2 := by rw [List.length_drop]; omega
    match l.drop i, this with
    | [], _ => rfl
    | [_], _ => rfl
    | [_, _], _ => rfl
    | _ :: _ :: _ :: _, h => simp at h

end Go.KL.YtmijcaccgbhgdaaDoor
