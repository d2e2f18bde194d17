/- quittanceref07.Sum -/
import Derived.Test.YtmijcaccgbhgdaaDoorArith
set_option linter.unusedVariables false
set_option linter.unusedSimpArgs false
set_option maxRecDepth 4000
namespace Go.KL.YtmijcaccgbhgdaaDoor
open Go Go.KL Go.RowKit Go.Proofs

theorem c28 : cFun E0.P 28 = some ⟨43, [(2, none), (3, none)], .seq (.rg [⟨some 2, none, .mv (.k (.int .i64 0))⟩, ⟨some 3, none, .mv (.k (.bool false))⟩]) (.seq (.rg [⟨some 4, none, .mv (.k (.int .i64 0))⟩, ⟨some 5, none, .mv (.k (.int .i64 0))⟩]) (.seq (.seq (.rg [⟨some 6, none, .mv (.k (.int .i64 0))⟩]) (.block 0 (.loop (.seq (.seq (.rg [⟨some 7, none, .mv (.t 6)⟩, ⟨some 8, none, .mv (.t 0)⟩, ⟨some 9, none, .len 1 (.t 8)⟩, ⟨some 10, none, .bin .lss .leaf (.t 7) (.t 9)⟩]) (.cond (.t 10) .skip (.exit 0))) (.seq (.block 1 (.seq (.rg [⟨some 13, none, .mv (.t 4)⟩, ⟨some 14, none, .mv (.t 0)⟩, ⟨some 15, none, .mv (.t 6)⟩, ⟨some 16, none, .ia 1 (.t 14) (.t 15)⟩, ⟨some 17, none, .ld 1 false (.t 16)⟩, ⟨some 18, none, .bin .shr .leaf (.t 17) (.k (.int .u64 32))⟩, ⟨some 19, none, .bin .add .leaf (.t 13) (.t 18)⟩, ⟨some 4, none, .mv (.t 19)⟩]) (.rg [⟨some 20, none, .mv (.t 5)⟩, ⟨some 21, none, .mv (.t 0)⟩, ⟨some 22, none, .mv (.t 6)⟩, ⟨some 23, none, .ia 1 (.t 21) (.t 22)⟩, ⟨some 24, none, .ld 1 false (.t 23)⟩, ⟨some 25, none, .bin .and .leaf (.t 24) (.k (.int .i64 4294967295))⟩, ⟨some 26, none, .bin .add .leaf (.t 20) (.t 25)⟩, ⟨some 5, none, .mv (.t 26)⟩]))) (.rg [⟨some 11, none, .mv (.t 6)⟩, ⟨some 12, none, .bin .add .leaf (.t 11) (.k (.int .i64 1))⟩, ⟨some 6, none, .mv (.t 12)⟩])))))) (.seq (.rg [⟨some 27, none, .mv (.t 4)⟩, ⟨some 28, none, .mv (.t 5)⟩, ⟨some 29, none, .bin .shr .leaf (.t 28) (.k (.int .u64 32))⟩, ⟨some 30, none, .bin .add .leaf (.t 27) (.t 29)⟩, ⟨some 4, none, .mv (.t 30)⟩]) (.seq (.rg [⟨some 31, none, .mv (.t 5)⟩, ⟨some 32, none, .bin .and .leaf (.t 31) (.k (.int .i64 4294967295))⟩, ⟨some 5, none, .mv (.t 32)⟩]) (.seq (.seq (.rg [⟨some 33, none, .mv (.t 4)⟩, ⟨some 34, none, .bin .lss .leaf (.t 33) (.k (.int .i64 (-2147483648)))⟩, ⟨some 35, none, .mv (.t 34)⟩, ⟨some 36, some (35, false), .mv (.t 4)⟩, ⟨some 37, some (35, false), .bin .geq .leaf (.t 36) (.k (.int .i64 2147483648))⟩, ⟨some 38, none, .pick (.t 35) (.k (.bool true)) (.t 37)⟩]) (.cond (.t 38) (.seq (.rg [⟨some 2, none, .mv (.k (.int .i64 0))⟩, ⟨some 3, none, .mv (.k (.bool false))⟩]) .ret) .skip)) (.seq (.rg [⟨some 39, none, .mv (.t 4)⟩, ⟨some 40, none, .bin .shl .leaf (.t 39) (.k (.int .u64 32))⟩, ⟨some 41, none, .mv (.t 5)⟩, ⟨some 42, none, .bin .add .leaf (.t 40) (.t 41)⟩, ⟨some 2, none, .mv (.t 42)⟩, ⟨some 3, none, .mv (.k (.bool true))⟩]) .ret))))))⟩ := by kernel_rfl

/-- the lower halves -/
def lows : List Int → Int
  | [] => 0
  | a :: r => a % 4294967296 + lows r
/-- the upper ones -/
def highs : List Int → Int
  | [] => 0
  | a :: r => a / 4294967296 + highs r
theorem halves : ∀ l, highs l * 4294967296 + lows l = l.sum
  | [] => rfl
  | a :: r => by
    have := halves r
    simp only [highs, lows, List.sum_cons]
    omega
theorem lows_app (a b : List Int) : lows (a ++ b) = lows a + lows b := by
  induction a with
  | nil => simp [lows]
  | cons x r ih => simp only [List.cons_append, lows, ih]; omega
theorem highs_app (a b : List Int) : highs (a ++ b) = highs a + highs b := by
  induction a with
  | nil => simp [highs]
  | cons x r ih => simp only [List.cons_append, highs, ih]; omega
theorem lows_take {l : List Int} {i : Nat} (h : i < l.length) : lows (l.take (i + 1)) = lows (l.take i) + l[i] % 4294967296 := by
  rw [List.take_add_one, List.getElem?_eq_getElem h, Option.toList_some, lows_app]
  simp [lows]
theorem highs_take {l : List Int} {i : Nat} (h : i < l.length) : highs (l.take (i + 1)) = highs (l.take i) + l[i] / 4294967296 := by
  rw [List.take_add_one, List.getElem?_eq_getElem h, Option.toList_some, highs_app]
  simp [highs]
theorem lows_bd : ∀ l : List Int, 0 ≤ lows l ∧ lows l ≤ 4294967295 * (l.length : Int)
  | [] => by simp [lows]
  | a :: r => by
    have := lows_bd r
    simp only [lows, List.length_cons]
    omega
theorem highs_bd : ∀ l : List Int, (∀ n ∈ l, I64 n) → -(2147483648 * (l.length : Int)) ≤ highs l ∧ highs l ≤ 2147483648 * (l.length : Int)
  | [], _ => by simp [highs]
  | a :: r, h => by
    have := highs_bd r fun n hn => h n (by simp [hn])
    have h1 := h a (by simp)
    unfold I64 at h1
    simp only [highs, List.length_cons]
    omega
theorem shl32m (a : Int) : IntKind.wrap .i64 (a * 2 ^ (min (Int.toNat 32) (IntKind.bits .i64))) = IntKind.wrap .i64 (a * 4294967296) := by rw [shl32]

theorem refSum (l : List Int) (hl : l.length < 1073741824) (hr : ∀ n ∈ l, I64 n) : Pure 28 [.sl (i64s l)] (sumS l) := by
  intro S tk
  refine ACalls.fgo c28 rfl fun hS => ?_
  refine floop (α := Nat) rfl rfl hS (fun i => i ≤ l.length) (fun i => l.length - i) (fun i => [(6, .d (.int .i64 i)), (0, .d (.sl (i64s l))), (4, .d (.int .i64 (highs (l.take i)))), (5, .d (.int .i64 (lows (l.take i))))]) (fun i => []) (fun _ => []) 0 (by omega) (fstep_sub ⟨Sub.refl _, Sub.refl _, Sub.refl _, Sub.refl _, trivial⟩) ?_
  rintro i hi
  refine bs_i (fun h => ?_) (fun h => ?_)
  · rw [i64s_len] at h
    simp only [decide_eq_true_eq] at h
    have hi2 : i < l.length := by omega
    refine pK_i (iaD_i64s (a := l[i]) (by omega) (by simp)) ?_
    refine pK_i (iaD_i64s (a := l[i]) (by omega) (by simp)) ?_
    have a1 := lows_bd (l.take i)
    have a2 := highs_bd (l.take i) fun n hn => hr n (List.mem_of_mem_take hn)
    rw [List.length_take] at a1 a2
    have hx := hr l[i] (by simp)
    unfold I64 at hx
    refine fnext (i + 1) hi2 (by omega) (fstep_sub ⟨Sub.int (by rw [wi64]; omega), Sub.refl _, Sub.int ?_, Sub.int ?_, trivial⟩)
    · rw [shr32, highs_take hi2, wi64]; omega
    · rw [and32, lows_take hi2, wi64]; omega
  · rw [i64s_len] at h
    simp only [decide_eq_false_iff_not] at h
    have hi2 : i = l.length := by omega
    subst hi2
    have a1 := lows_bd l
    have a2 := highs_bd l hr
    have a3 := halves l
    have e : IntKind.i64.wrap (highs l + (lows l).fdiv (2 ^ (min (Int.toNat 32) (IntKind.bits .i64)))) = highs l + lows l / 4294967296 := by rw [shr32, wi64]; omega
    refine bs_i (fun q => ?_) (fun q => ?_)
    · refine ffin _ rfl rfl hS (Sub.refl _) rfl ⟨?_, rfl, rfl⟩
      simp only [List.take_length, e, decide_eq_true_eq] at q
      simp only [tupD, sumS]
      rw [if_neg (by omega)]
    · refine bs_i (fun q2 => ?_) (fun q2 => ?_)
      · refine ffin _ rfl rfl hS (Sub.refl _) rfl ⟨?_, rfl, rfl⟩
        simp only [List.take_length, e, decide_eq_true_eq] at q2
        simp only [tupD, sumS]
        rw [if_neg (by omega)]
      · refine ffin _ rfl rfl hS (Sub.refl _) rfl ⟨?_, rfl, rfl⟩
        simp only [List.take_length, e, decide_eq_false_iff_not] at q q2
        simp only [tupD, sumS, List.take_length, e, and32, shl32m]
        rw [if_pos (by omega)]
        simp only [D.tup.injEq, List.cons.injEq, D.int.injEq, true_and, and_true]
        rw [wi64, wi64]
        omega

end Go.KL.YtmijcaccgbhgdaaDoor
