/- arith.Sum -/
import Derived.Test.YtmijcaccgbhgdaaDoorE24
set_option linter.unusedVariables false
set_option linter.unusedSimpArgs false
set_option maxRecDepth 4000
namespace Go.KL.YtmijcaccgbhgdaaDoor
open Go Go.KL Go.RowKit Go.Proofs

theorem c13 : cFun E0.P 13 = some ⟨46, [(2, none), (3, none)], .seq (.rg [⟨some 2, none, .mv (.k (.int .i64 0))⟩, ⟨some 3, none, .mv (.k (.bool false))⟩]) (.seq (.rg [⟨some 10, none, .build [.int .u64 0, .int .u64 0] []⟩, ⟨some 4, none, .alloc [.int .u64 0, .int .u64 0] 67⟩, ⟨none, none, .st 2 (.t 4) (.t 10)⟩]) (.seq (.seq (.rg [⟨some 11, none, .mv (.t 0)⟩, ⟨some 12, none, .len 1 (.t 11)⟩, ⟨some 13, none, .mv (.k (.int .i64 0))⟩]) (.block 0 (.loop (.seq (.rg [⟨some 14, none, .bin .lss .leaf (.t 13) (.t 12)⟩]) (.seq (.cond (.t 14) .skip (.exit 0)) (.seq (.block 1 (.seq (.rg [⟨some 15, none, .ia 1 (.t 11) (.t 13)⟩, ⟨some 16, none, .ld 1 false (.t 15)⟩, ⟨some 6, none, .mv (.t 16)⟩]) (.seq (.rg [⟨some 18, none, .fa 1 (.t 4)⟩, ⟨some 19, none, .ld 1 false (.t 18)⟩, ⟨some 20, none, .mv (.t 6)⟩, ⟨some 21, none, .conv .u64 (.t 20)⟩, ⟨some 22, none, .extn 29 [.t 19, .t 21, .k (.int .u64 0)]⟩, ⟨some 17, none, .mv (.t 22)⟩, ⟨some 23, none, .ext 0 (.t 17)⟩, ⟨some 24, none, .ext 1 (.t 17)⟩, ⟨some 7, none, .mv (.t 23)⟩, ⟨some 8, none, .mv (.t 24)⟩]) (.rg [⟨some 25, none, .fa 0 (.t 4)⟩, ⟨some 26, none, .ld 1 false (.t 25)⟩, ⟨some 27, none, .mv (.t 6)⟩, ⟨some 28, none, .bin .shr .leaf (.t 27) (.k (.int .u64 63))⟩, ⟨some 29, none, .conv .u64 (.t 28)⟩, ⟨some 30, none, .bin .add .leaf (.t 26) (.t 29)⟩, ⟨some 31, none, .mv (.t 8)⟩, ⟨some 32, none, .bin .add .leaf (.t 30) (.t 31)⟩, ⟨some 33, none, .mv (.t 7)⟩, ⟨some 34, none, .build [.int .u64 0, .int .u64 0] [(0, 1, .t 32), (1, 1, .t 33)]⟩, ⟨none, none, .st 2 (.t 4) (.t 34)⟩])))) (.rg [⟨some 35, none, .bin .add .leaf (.t 13) (.k (.int .i64 1))⟩, ⟨some 13, none, .mv (.t 35)⟩]))))))) (.seq (.seq (.rg [⟨some 36, none, .fa 1 (.t 4)⟩, ⟨some 37, none, .ld 1 false (.t 36)⟩, ⟨some 38, none, .conv .i64 (.t 37)⟩, ⟨some 9, none, .mv (.t 38)⟩]) (.seq (.rg [⟨some 39, none, .mv (.t 9)⟩, ⟨some 40, none, .bin .shr .leaf (.t 39) (.k (.int .u64 63))⟩, ⟨some 41, none, .conv .u64 (.t 40)⟩, ⟨some 42, none, .fa 0 (.t 4)⟩, ⟨some 43, none, .ld 1 false (.t 42)⟩, ⟨some 44, none, .bin .eql .leaf (.t 41) (.t 43)⟩]) (.cond (.t 44) (.seq (.rg [⟨some 45, none, .mv (.t 9)⟩, ⟨some 2, none, .mv (.t 45)⟩, ⟨some 3, none, .mv (.k (.bool true))⟩]) .ret) .skip))) (.seq (.rg [⟨some 2, none, .mv (.k (.int .i64 0))⟩, ⟨some 3, none, .mv (.k (.bool false))⟩]) .ret))))⟩ := by kernel_rfl
theorem c27 : cFun E0.P 27 = some ⟨12, [(4, none), (5, none)], .seq (.rg [⟨some 4, none, .mv (.k (.int .i64 0))⟩, ⟨some 5, none, .mv (.k (.bool false))⟩]) (.seq (.rg [⟨some 6, none, .mv (.t 0)⟩, ⟨some 7, none, .mv (.t 1)⟩, ⟨some 8, none, .buildS 2 1 [.int .i64 0] [(0, .t 6), (1, .t 7)] 2⟩, ⟨some 9, none, .call 13 [.t 8]⟩, ⟨some 10, none, .ext 0 (.t 9)⟩, ⟨some 11, none, .ext 1 (.t 9)⟩, ⟨some 4, none, .mv (.t 10)⟩, ⟨some 5, none, .mv (.t 11)⟩]) .ret)⟩ := by kernel_rfl

theorem add64 {a b c : Int} (ha : U64 a) (hb : U64 b) (hc : 0 ≤ c ∧ c ≤ 1) : AExt E0 29 [.int .u64 a, .int .u64 b, .int .u64 c] (.tup [.int .u64 ((a + b + c) % 18446744073709551616), .int .u64 ((a + b + c) / 18446744073709551616)]) :=
  AExt.add64 (fn := E0.P.funcs[29]!) (by kernel_rfl) (by kernel_rfl) (by kernel_rfl) (by kernel_rfl) (by kernel_rfl) ha hb hc
abbrev sumS (l : List Int) : D := if -9223372036854775808 ≤ l.sum ∧ l.sum < 9223372036854775808 then .tup [.int .i64 l.sum, .bool true] else .tup [.int .i64 0, .bool false]
theorem sum_bd : ∀ (l : List Int), (∀ n ∈ l, I64 n) → -(9223372036854775808 * (l.length : Int)) ≤ l.sum ∧ l.sum ≤ 9223372036854775808 * (l.length : Int)
  | [], _ => by simp
  | a :: r, h => by
    have h1 := h a (by simp)
    have h2 := sum_bd r fun n hn => h n (by simp [hn])
    unfold I64 at h1
    simp only [List.sum_cons, List.length_cons]
    omega
theorem Sum (l : List Int) (hl : l.length < 4611686018427387904) (hr : ∀ n ∈ l, I64 n) : Pure 13 [.sl (i64s l)] (sumS l) := by
  intro S tk
  refine ACalls.withSc fun hsc => ?_
  refine ACalls.fgo c13 rfl fun hS => ?_
  have hsc' : scLL S.length tk.length (i64s l) = true := by simp only [scL, D.sc, Bool.and_true] at hsc; exact hsc
  refine floop (α := Nat) rfl rfl hS (fun i => i ≤ l.length) (fun i => l.length - i) (fun i => [(4, .lp 0 0), (13, .d (.int .i64 i)), (11, .d (.sl (i64s l))), (12, .d (.int .i64 (i64s l).length))]) (fun i => [.arr [.int .u64 ((l.take i).sum / 18446744073709551616 % 18446744073709551616), .int .u64 ((l.take i).sum % 18446744073709551616)]]) (fun _ => []) 0 (by omega) (fstep_sub ⟨Sub.refl _, Sub.refl _, Sub.refl _, Sub.refl _, trivial⟩) ?_
  rintro i hi
  refine bs_i (fun h => ?_) (fun h => ?_)
  · rw [i64s_len] at h
    simp only [decide_eq_true_eq] at h
    have hi2 : i < l.length := by omega
    refine pK_i (iaD_i64s (a := l[i]) (by omega) (by simp)) ?_
    refine xk (add64 ?_ ?_ (by omega)) ?_
    · unfold U64; omega
    · exact wu64_range _
    refine fnext (i + 1) hi2 (by omega) (fstep_J ?_ ⟨Sub.refl _, Sub.int (by rw [wi64]; omega), Sub.refl _, Sub.refl _, trivial⟩)
    have hx := hr l[i] (by simp)
    rw [take_sum hi2]
    simp only [List.cons.injEq, O.arr.injEq, D.int.injEq, true_and, and_true, shr63]
    generalize (l.take i).sum = s
    generalize l[i] = x at hx
    simp only [wu64]
    exact ⟨two_step hx, by omega⟩
  · rw [i64s_len] at h
    simp only [decide_eq_false_iff_not] at h
    have hi2 : i = l.length := by omega
    have hbd := sum_bd l hr
    subst hi2
    refine bs_i (fun q => ?_) (fun q => ?_)
    · refine ffin _ rfl rfl hS (Sub.refl _) rfl ⟨?_, rfl, rfl⟩
      simp only [List.take_length, shr63, wu64, wi64, decide_eq_true_eq] at q
      rw [two_words (by omega) (by omega)] at q
      simp only [List.take_length, tupD, sumS, wi64]
      unfold I64 at q
      rw [if_pos q]
      simp only [D.tup.injEq, List.cons.injEq, D.int.injEq, true_and, and_true]
      omega
    · refine ffin _ rfl rfl hS (Sub.refl _) rfl ⟨?_, rfl, rfl⟩
      simp only [List.take_length, shr63, wu64, wi64, decide_eq_false_iff_not] at q
      rw [two_words (by omega) (by omega)] at q
      simp only [tupD, sumS]
      unfold I64 at q
      rw [if_neg q]

end Go.KL.YtmijcaccgbhgdaaDoor
