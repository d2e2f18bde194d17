/- JournalOrder -/
import Derived.Test.YtogpeefldehnkaaJg
set_option linter.unusedVariables false
set_option linter.unusedSimpArgs false
set_option linter.unusedSectionVars false
set_option maxRecDepth 4000
namespace Go.KL.Ytogpeefldehnkaa.J
open Go Go.KL Go.RowKit Go.Proofs Go.KL.Ytogpeefldehnkaa

theorem c15 : cFun E0.P 15 = some ⟨54, [(4, none), (5, none)], .seq (.rg [⟨some 3, none, .box (.t 1) 34⟩, ⟨some 4, none, .mv (.k (.int .i64 0))⟩, ⟨some 5, none, .mv (.k (.bool false))⟩]) (.seq (.rg [⟨some 6, none, .mv (.k .nilsl)⟩]) (.seq (.seq (.rg [⟨some 7, none, .mv (.k (.int .i64 0))⟩]) (.block 0 (.loop (.seq (.seq (.rg [⟨some 8, none, .mv (.t 7)⟩, ⟨some 9, none, .mv (.t 0)⟩, ⟨some 10, none, .len 1 (.t 9)⟩, ⟨some 11, none, .bin .lss .leaf (.t 8) (.t 10)⟩]) (.cond (.t 11) .skip (.exit 0))) (.seq (.block 1 (.seq (.rd [(⟨some 14, none, .mv (.t 0)⟩, none), (⟨some 15, none, .mv (.t 7)⟩, none), (⟨some 16, none, .ia 4 (.t 14) (.t 15)⟩, none), (⟨some 17, none, .fa 0 (.t 16)⟩, none), (⟨some 18, none, .ld 1 false (.t 17)⟩, none), (⟨some 19, none, .fa 0 (.t 3)⟩, none), (⟨some 20, none, .ld 1 false (.t 19)⟩, none), (⟨some 21, none, .bin .eql .leaf (.t 18) (.t 20)⟩, none), (⟨some 22, none, .mv (.t 21)⟩, none), (⟨some 23, some (22, true), .mv (.t 0)⟩, none), (⟨some 24, some (22, true), .mv (.t 7)⟩, none), (⟨some 25, some (22, true), .ia 4 (.t 23) (.t 24)⟩, none), (⟨some 26, some (22, true), .fa 1 (.t 25)⟩, none), (⟨some 27, some (22, true), .ld 1 false (.t 26)⟩, none), (⟨some 28, some (22, true), .fa 1 (.t 3)⟩, none), (⟨some 29, some (22, true), .ld 1 false (.t 28)⟩, none), (⟨some 30, some (22, true), .bin .eql .leaf (.t 27) (.t 29)⟩, none), (⟨some 31, none, .pick (.t 22) (.t 30) (.k (.bool false))⟩, none), (⟨some 32, none, .mv (.t 31)⟩, none), (⟨some 33, some (32, true), .mv (.t 0)⟩, none), (⟨some 34, some (32, true), .mv (.t 7)⟩, none), (⟨some 35, some (32, true), .ia 4 (.t 33) (.t 34)⟩, none), (⟨some 36, some (32, true), .fa 2 (.t 35)⟩, none), (⟨some 37, some (32, true), .ld 1 false (.t 36)⟩, none), (⟨some 38, some (32, true), .fa 2 (.t 3)⟩, none), (⟨some 39, some (32, true), .ld 1 false (.t 38)⟩, none), (⟨some 40, some (32, true), .bin .eql .leaf (.t 37) (.t 39)⟩, none), (⟨some 41, none, .pick (.t 32) (.t 40) (.k (.bool false))⟩, none)]) (.cond (.t 41) (.rg [⟨some 42, none, .mv (.t 6)⟩, ⟨some 43, none, .mv (.t 0)⟩, ⟨some 44, none, .mv (.t 7)⟩, ⟨some 45, none, .ia 4 (.t 43) (.t 44)⟩, ⟨some 46, none, .fa 3 (.t 45)⟩, ⟨some 47, none, .ld 1 false (.t 46)⟩, ⟨some 48, none, .buildS 1 1 [.int .i64 0] [(0, .t 47)] 2⟩, ⟨some 49, none, .app 99 2 1 8 [.int .i64 0] (.t 42) (.t 48)⟩, ⟨some 6, none, .mv (.t 49)⟩]) .skip))) (.rg [⟨some 12, none, .mv (.t 7)⟩, ⟨some 13, none, .bin .add .leaf (.t 12) (.k (.int .i64 1))⟩, ⟨some 7, none, .mv (.t 13)⟩])))))) (.seq (.rg [⟨some 50, none, .mv (.t 6)⟩, ⟨some 51, none, .call 44 [.t 50]⟩, ⟨some 52, none, .ext 0 (.t 51)⟩, ⟨some 53, none, .ext 1 (.t 51)⟩, ⟨some 4, none, .mv (.t 52)⟩, ⟨some 5, none, .mv (.t 53)⟩]) .ret)))⟩ := by kernel_rfl
theorem c4 : cFun E0.P 4 = some ⟨143, [(4, none)], .seq (.rg [⟨some 4, none, .mv (.k (.bool false))⟩]) (.seq (.seq (.rg [⟨some 18, none, .mv (.t 0)⟩, ⟨some 19, none, .len 1 (.t 18)⟩, ⟨some 20, none, .bin .gtr .leaf (.t 19) (.k (.int .i64 60))⟩]) (.cond (.t 20) (.seq (.rg [⟨some 21, none, .call 10 []⟩, ⟨some 4, none, .mv (.t 21)⟩]) .ret) .skip)) (.seq (.rg [⟨some 23, none, .mv (.t 0)⟩, ⟨some 24, none, .call 11 [.t 23]⟩, ⟨some 22, none, .mv (.t 24)⟩, ⟨some 25, none, .ext 0 (.t 22)⟩, ⟨some 26, none, .ext 1 (.t 22)⟩, ⟨some 5, none, .mv (.t 25)⟩, ⟨some 6, none, .mv (.t 26)⟩]) (.seq (.seq (.rg [⟨some 27, none, .mv (.t 6)⟩, ⟨some 28, none, .bin .neq .leaf (.t 27) (.k (.int .i64 0))⟩]) (.cond (.t 28) (.seq (.rg [⟨some 29, none, .mv (.t 5)⟩, ⟨some 30, none, .len 1 (.t 29)⟩, ⟨some 31, none, .bin .eql .leaf (.t 30) (.k (.int .i64 0))⟩, ⟨some 32, none, .mv (.t 31)⟩, ⟨some 33, some (32, true), .call 10 []⟩, ⟨some 34, none, .pick (.t 32) (.t 33) (.k (.bool false))⟩, ⟨some 4, none, .mv (.t 34)⟩]) .ret) .skip)) (.seq (.seq (.rg [⟨some 35, none, .mv (.t 0)⟩, ⟨some 36, none, .len 1 (.t 35)⟩, ⟨some 37, none, .bin .eql .leaf (.t 36) (.k (.int .i64 0))⟩]) (.cond (.t 37) (.seq (.rg [⟨some 38, none, .mv (.t 5)⟩, ⟨some 39, none, .len 1 (.t 38)⟩, ⟨some 40, none, .bin .eql .leaf (.t 39) (.k (.int .i64 0))⟩, ⟨some 41, none, .mv (.t 40)⟩, ⟨some 42, some (41, true), .call 10 []⟩, ⟨some 43, none, .pick (.t 41) (.t 42) (.k (.bool false))⟩, ⟨some 4, none, .mv (.t 43)⟩]) .ret) .skip)) (.seq (.rg [⟨some 44, none, .mv (.t 1)⟩, ⟨some 45, none, .mv (.t 0)⟩, ⟨some 46, none, .len 1 (.t 45)⟩, ⟨some 47, none, .bin .rem .leaf (.t 44) (.t 46)⟩, ⟨some 7, none, .mv (.t 47)⟩]) (.seq (.seq (.rg [⟨some 48, none, .mv (.t 7)⟩, ⟨some 49, none, .bin .lss .leaf (.t 48) (.k (.int .i64 0))⟩]) (.cond (.t 49) (.rg [⟨some 50, none, .mv (.t 7)⟩, ⟨some 51, none, .mv (.t 0)⟩, ⟨some 52, none, .len 1 (.t 51)⟩, ⟨some 53, none, .bin .add .leaf (.t 50) (.t 52)⟩, ⟨some 7, none, .mv (.t 53)⟩]) .skip)) (.seq (.rd [(⟨some 55, none, .buildS 0 4 [.int .i64 0, .int .u64 0, .int .u64 0, .int .i64 0] [] 34⟩, none), (⟨some 56, none, .mv (.t 0)⟩, none), (⟨some 57, none, .mv (.t 7)⟩, none), (⟨some 58, none, .slL 4 (.t 56) (some (.t 57)) none none⟩, none), (⟨some 60, none, .mv (.t 0)⟩, none), (⟨some 61, none, .mv (.t 7)⟩, none), (⟨some 62, none, .slL 4 (.t 60) none (some (.t 61)) none⟩, none), (⟨some 59, none, .app 22 34 4 32 [.int .i64 0, .int .u64 0, .int .u64 0, .int .i64 0] (.t 55) (.t 58)⟩, some []), (⟨some 63, none, .app 22 34 4 32 [.int .i64 0, .int .u64 0, .int .u64 0, .int .i64 0] (.t 59) (.t 62)⟩, some []), (⟨some 64, none, .call 11 [.t 63]⟩, some []), (⟨some 54, none, .mv (.t 64)⟩, none), (⟨some 65, none, .ext 0 (.t 54)⟩, none), (⟨some 66, none, .ext 1 (.t 54)⟩, none), (⟨some 8, none, .mv (.t 65)⟩, none), (⟨some 9, none, .mv (.t 66)⟩, none)]) (.seq (.rg [⟨some 68, none, .mv (.t 5)⟩, ⟨some 69, none, .call 11 [.t 68]⟩, ⟨some 67, none, .mv (.t 69)⟩, ⟨some 70, none, .ext 0 (.t 67)⟩, ⟨some 71, none, .ext 1 (.t 67)⟩, ⟨some 10, none, .mv (.t 70)⟩, ⟨some 11, none, .mv (.t 71)⟩]) (.seq (.seq (.rg [⟨some 72, none, .mv (.t 9)⟩, ⟨some 73, none, .bin .neq .leaf (.t 72) (.k (.int .i64 0))⟩, ⟨some 74, none, .mv (.t 73)⟩, ⟨some 75, some (74, false), .mv (.t 11)⟩, ⟨some 76, some (74, false), .bin .neq .leaf (.t 75) (.k (.int .i64 0))⟩, ⟨some 77, none, .pick (.t 74) (.k (.bool true)) (.t 76)⟩, ⟨some 78, none, .mv (.t 77)⟩, ⟨some 79, some (78, false), .mv (.t 5)⟩, ⟨some 80, some (78, false), .mv (.t 8)⟩, ⟨some 81, some (78, false), .call 13 [.t 79, .t 80]⟩, ⟨some 82, some (78, false), .un .not (.t 81)⟩, ⟨some 83, none, .pick (.t 78) (.k (.bool true)) (.t 82)⟩, ⟨some 84, none, .mv (.t 83)⟩, ⟨some 85, some (84, false), .mv (.t 5)⟩, ⟨some 86, some (84, false), .mv (.t 10)⟩, ⟨some 87, some (84, false), .call 13 [.t 85, .t 86]⟩, ⟨some 88, some (84, false), .un .not (.t 87)⟩, ⟨some 89, none, .pick (.t 84) (.k (.bool true)) (.t 88)⟩]) (.cond (.t 89) (.seq (.rg [⟨some 4, none, .mv (.k (.bool false))⟩]) .ret) .skip)) (.seq (.seq (.rg [⟨some 12, none, .mv (.k (.int .i64 1))⟩]) (.block 0 (.loop (.seq (.seq (.rg [⟨some 90, none, .mv (.t 12)⟩, ⟨some 91, none, .mv (.t 5)⟩, ⟨some 92, none, .len 1 (.t 91)⟩, ⟨some 93, none, .bin .lss .leaf (.t 90) (.t 92)⟩]) (.cond (.t 93) .skip (.exit 0))) (.seq (.block 1 (.seq (.rd [(⟨some 96, none, .mv (.t 5)⟩, none), (⟨some 97, none, .mv (.t 12)⟩, none), (⟨some 98, none, .bin .sub .leaf (.t 97) (.k (.int .i64 1))⟩, none), (⟨some 99, none, .ia 4 (.t 96) (.t 98)⟩, none), (⟨some 100, none, .ld 4 true (.t 99)⟩, none), (⟨some 101, none, .mv (.t 5)⟩, none), (⟨some 102, none, .mv (.t 12)⟩, none), (⟨some 103, none, .ia 4 (.t 101) (.t 102)⟩, none), (⟨some 104, none, .ld 4 true (.t 103)⟩, none), (⟨some 105, none, .call 14 [.t 100, .t 104]⟩, some []), (⟨some 106, none, .un .not (.t 105)⟩, none)]) (.cond (.t 106) (.seq (.rg [⟨some 4, none, .mv (.k (.bool false))⟩]) .ret) .skip))) (.rg [⟨some 94, none, .mv (.t 12)⟩, ⟨some 95, none, .bin .add .leaf (.t 94) (.k (.int .i64 1))⟩, ⟨some 12, none, .mv (.t 95)⟩])))))) (.seq (.seq (.rg [⟨some 13, none, .mv (.k (.int .i64 0))⟩]) (.block 2 (.loop (.seq (.seq (.rg [⟨some 107, none, .mv (.t 13)⟩, ⟨some 108, none, .mv (.t 0)⟩, ⟨some 109, none, .len 1 (.t 108)⟩, ⟨some 110, none, .bin .lss .leaf (.t 107) (.t 109)⟩]) (.cond (.t 110) .skip (.exit 2))) (.seq (.block 3 (.seq (.rg [⟨some 114, none, .mv (.t 0)⟩, ⟨some 115, none, .mv (.t 0)⟩, ⟨some 116, none, .mv (.t 13)⟩, ⟨some 117, none, .ia 4 (.t 115) (.t 116)⟩, ⟨some 118, none, .ld 4 true (.t 117)⟩, ⟨some 119, none, .call 15 [.t 114, .t 118]⟩, ⟨some 113, none, .mv (.t 119)⟩, ⟨some 120, none, .ext 0 (.t 113)⟩, ⟨some 121, none, .ext 1 (.t 113)⟩, ⟨some 14, none, .mv (.t 120)⟩, ⟨some 15, none, .mv (.t 121)⟩]) (.seq (.rg [⟨some 123, none, .mv (.t 5)⟩, ⟨some 124, none, .mv (.t 0)⟩, ⟨some 125, none, .mv (.t 13)⟩, ⟨some 126, none, .ia 4 (.t 124) (.t 125)⟩, ⟨some 127, none, .ld 4 true (.t 126)⟩, ⟨some 128, none, .call 15 [.t 123, .t 127]⟩, ⟨some 122, none, .mv (.t 128)⟩, ⟨some 129, none, .ext 0 (.t 122)⟩, ⟨some 130, none, .ext 1 (.t 122)⟩, ⟨some 16, none, .mv (.t 129)⟩, ⟨some 17, none, .mv (.t 130)⟩]) (.seq (.rg [⟨some 131, none, .mv (.t 15)⟩, ⟨some 132, none, .un .not (.t 131)⟩, ⟨some 133, none, .mv (.t 132)⟩, ⟨some 134, some (133, false), .mv (.t 17)⟩, ⟨some 135, some (133, false), .un .not (.t 134)⟩, ⟨some 136, none, .pick (.t 133) (.k (.bool true)) (.t 135)⟩, ⟨some 137, none, .mv (.t 136)⟩, ⟨some 138, some (137, false), .mv (.t 14)⟩, ⟨some 139, some (137, false), .mv (.t 16)⟩, ⟨some 140, some (137, false), .bin .neq .leaf (.t 138) (.t 139)⟩, ⟨some 141, none, .pick (.t 137) (.k (.bool true)) (.t 140)⟩]) (.cond (.t 141) (.seq (.rg [⟨some 4, none, .mv (.k (.bool false))⟩]) .ret) .skip))))) (.rg [⟨some 111, none, .mv (.t 13)⟩, ⟨some 112, none, .bin .add .leaf (.t 111) (.k (.int .i64 1))⟩, ⟨some 13, none, .mv (.t 112)⟩])))))) (.seq (.rg [⟨some 142, none, .call 10 []⟩, ⟨some 4, none, .mv (.t 142)⟩]) .ret))))))))))))⟩ := by kernel_rfl

theorem amtsT_step {l : List Ln} {i : Nat} (t : Ti) (hi : i < l.length) : amtsT (l.take (i + 1)) t = amtsT (l.take i) t ++ if (l[i]!).t = t then [(l[i]!).amt] else [] := by
  rw [take_snA hi, amtsT_snoc]
theorem rise_at {a : List Ln} (h : a.Pairwise Ln.lt) {i : Nat} (h1 : 1 ≤ i) (hi : i < a.length) : Ln.lt a[i - 1]! a[i]! := by
  rw [getElem!_pos a (i - 1) (by omega), getElem!_pos a i hi]
  exact List.pairwise_iff_getElem.1 h (i - 1) i (by omega) hi (by omega)
theorem remD {a b : Int} (h : b ≠ 0) : binD .rem .leaf (.int .i64 a) (.int .i64 b) = some (.int .i64 (a.tmod b)) := by simp [binD, intD, h]
def sumN (l : List Int) : D := if -9223372036854775808 ≤ l.sum ∧ l.sum < 9223372036854775808 then .tup [.int .i64 l.sum, .bool true] else .tup [.int .i64 0, .bool false]
theorem of (l : List Ln) (hl : l.length < 1000000) (hR : ∀ x ∈ l, x.R) (x : Ln) : Pure 15 [.sl (lns l), x.d] (sumS (amtsT l x.t)) := by
  intro S tk
  have hlen := lns_len l
  have hal : ∀ i, (amtsT (l.take i) x.t).length ≤ l.length := fun i => Nat.le_trans (amtsT_len _ _) (by rw [List.length_take]; omega)
  have hsum := Sum (amtsT l x.t) (by have := amtsT_len l x.t; omega) (amtsT_R hR x.t)
  refine ACalls.fgo c15 rfl fun hS => ?_
  repeat' first | with_reducible refine fzD_ite (fun q => ?_) (fun q => ?_) | ((try conv => whnf); first
    | refine bs_d (fun q => ?_) (fun q => ?_)
    | refine bs_n ?_
    | refine bs_i (fun q => ?_) (fun q => ?_)
    | refine eqk rfl ?_
    | refine ffin _ rfl rfl hS (Sub.refl _) rfl ⟨?_, rfl, rfl⟩)
  refine floop (α := Nat) rfl rfl hS (fun i => i ≤ l.length) (fun i => l.length - i) (fun i => [(7, .d (.int .i64 i)), (0, .d (.sl (lns l))), (3, .lp 0 0), (6, .d (.gsl (i64s (amtsT (l.take i) x.t)) (tk.length + 0)))]) (fun _ => [.arr x.cs]) (fun i => [((i64s (amtsT (l.take i) x.t)).length, 2, 1)]) 0 (Nat.zero_le _) (fstep_tok 2 1 (t := 6) (.inl rfl) ⟨Sub.refl _, Sub.refl _, Sub.refl _, Sub.refl _, trivial⟩) ?_
  intro i hi
  by_cases hlt : i < l.length
  · have hst := amtsT_step x.t hlt
    have e : ((l[i]!).t = x.t) ↔ (l[i]!).acc = x.acc ∧ (l[i]!).cus = x.cus ∧ (l[i]!).con = x.con := by simp [Ln.t, Prod.mk.injEq]
    by_cases ht : (l[i]!).t = x.t
    · rw [if_pos ht] at hst
      have hgl : i64s (amtsT (l.take i) x.t) ++ [[.int .i64 (l[i]!).amt]] = i64s (amtsT (l.take (i + 1)) x.t) := by rw [hst]; simp [i64s]
      obtain ⟨h1, h2, h3⟩ := e.1 ht
      repeat' first | with_reducible refine fzD_ite (fun q => ?_) (fun q => ?_) | ((try conv => whnf); first
        | refine bs_t (decide_eq_true (show (i : Int) < (lns l).length by omega)) ?_
        | refine bs_t (decide_eq_true h1) ?_
        | refine bs_t (decide_eq_true h2) ?_
        | refine bs_t (decide_eq_true h3) ?_
        | refine bs_d (fun q => ?_) (fun q => ?_)
        | refine bs_n ?_
        | refine bs_i (fun q => ?_) (fun q => ?_)
        | refine pK_i (iaD_ln (i := i) rfl hlt) ?_
        | (refine gk_app (t := 0) (src := [[.int .i64 (l[i]!).amt]]) rfl rfl (by rfl) (by rfl) (by rfl) (by simp) (by have hz := hal i; rw [i64s_len]; generalize (amtsT (l.take i) x.t).length = z at hz ⊢; simp [maxLen]; omega) ?_; rw [hgl])
        | refine eqk rfl ?_
        | refine ffin _ rfl rfl hS (Sub.refl _) rfl ⟨?_, rfl, rfl⟩)
      conv => whnf
      exact fnext (α := Nat) (i + 1) (by omega) (by omega) (fstep_K rfl ⟨Sub.int (by first | rfl | omega | (refine Int.sub_eq_zero.mp ?_; simp (disch := ((try unfold I64); omega)) only [wi64_id, td]; omega)), Sub.refl _, Sub.refl _, Sub.refl _, trivial⟩)
    · rw [if_neg ht, List.append_nil] at hst
      rw [e] at ht
      repeat' first | with_reducible refine fzD_ite (fun q => ?_) (fun q => ?_) | ((try conv => whnf); first
        | refine bs_t (decide_eq_true (show (i : Int) < (lns l).length by omega)) ?_
        | refine bs_d (fun q => ?_) (fun q => ?_)
        | refine bs_n ?_
        | refine bs_i (fun q => ?_) (fun q => ?_)
        | refine pK_i (iaD_ln (i := i) rfl hlt) ?_
        | refine eqk rfl ?_
        | refine ffin _ rfl rfl hS (Sub.refl _) rfl ⟨?_, rfl, rfl⟩)
      all_goals first
        | (exfalso; omega)
        | (conv => whnf
           rw [← hst]
           exact fnext (α := Nat) (i + 1) (by omega) (by omega) (fstep_sub ⟨Sub.int (by first | rfl | omega | (refine Int.sub_eq_zero.mp ?_; simp (disch := ((try unfold I64); omega)) only [wi64_id, td]; omega)), Sub.refl _, Sub.refl _, Sub.refl _, trivial⟩))
  · obtain rfl : i = l.length := by omega
    rw [List.take_length]
    by_cases hf : -9223372036854775808 ≤ (amtsT l x.t).sum ∧ (amtsT l x.t).sum < 9223372036854775808
    · rw [sumS, if_pos hf] at hsum ⊢
      repeat' first | with_reducible refine fzD_ite (fun q => ?_) (fun q => ?_) | ((try conv => whnf); first
        | refine bs_f (decide_eq_false (by omega)) ?_
        | refine bs_d (fun q => ?_) (fun q => ?_)
        | refine bs_n ?_
        | refine bs_i (fun q => ?_) (fun q => ?_)
        | refine ckS (by first | rfl | simp) rfl hsum (.cons (Sub.rd rfl) .nil) ?_
        | refine eqk rfl ?_
        | refine ffin _ rfl rfl hS (Sub.refl _) rfl ⟨?_, rfl, rfl⟩)
      all_goals rfl
    · rw [sumS, if_neg hf] at hsum ⊢
      repeat' first | with_reducible refine fzD_ite (fun q => ?_) (fun q => ?_) | ((try conv => whnf); first
        | refine bs_f (decide_eq_false (by omega)) ?_
        | refine bs_d (fun q => ?_) (fun q => ?_)
        | refine bs_n ?_
        | refine bs_i (fun q => ?_) (fun q => ?_)
        | refine ckS (by first | rfl | simp) rfl hsum (.cons (Sub.rd rfl) .nil) ?_
        | refine eqk rfl ?_
        | refine ffin _ rfl rfl hS (Sub.refl _) rfl ⟨?_, rfl, rfl⟩)
      all_goals rfl
set_option maxHeartbeats 2000000 in
theorem journalOrder (l : List Ln) (hR : ∀ x ∈ l, x.R) (turn : Int) (ht : I64 turn) : Pure 4 [.sl (lns l), .int .i64 turn] (.bool true) := by
  intro S tk
  have hlen := lns_len l
  by_cases hl : (l.length : Int) > 60
  · refine ACalls.fgo c4 rfl fun hS => ?_
    repeat' first | with_reducible refine fzD_ite (fun q => ?_) (fun q => ?_) | ((try conv => whnf); first
      | refine bs_t (decide_eq_true (by omega)) ?_
      | refine bs_d (fun q => ?_) (fun q => ?_)
      | refine bs_n ?_
      | refine bs_i (fun q => ?_) (fun q => ?_)
      | refine ck (by first | rfl | simp) rfl (head) ?_
      | refine cq (head) ?_
      | refine eqk rfl ?_
      | refine ffin _ rfl rfl hS (Sub.refl _) rfl ⟨?_, rfl, rfl⟩)
    all_goals rfl
  by_cases hb : BadL l
  · have t1 := TidyB (by omega) hR hb
    refine ACalls.fgo c4 rfl fun hS => ?_
    repeat' first | with_reducible refine fzD_ite (fun q => ?_) (fun q => ?_) | ((try conv => whnf); first
      | refine bs_f (decide_eq_false (by omega)) ?_
      | refine bs_d (fun q => ?_) (fun q => ?_)
      | refine bs_n ?_
      | refine bs_i (fun q => ?_) (fun q => ?_)
      | refine ck (by first | rfl | simp) rfl (t1) ?_
      | refine cq (t1) ?_
      | refine ck (by first | rfl | simp) rfl (head) ?_
      | refine cq (head) ?_
      | refine eqk rfl ?_
      | refine ffin _ rfl rfl hS (Sub.refl _) rfl ⟨?_, rfl, rfl⟩)
    all_goals rfl
  have t1 := TidyO (by omega) hR hb
  have hT := tidL_t hb
  by_cases hn : l = []
  · subst hn
    rw [tid_nil hT] at t1
    refine ACalls.fgo c4 rfl fun hS => ?_
    repeat' first | with_reducible refine fzD_ite (fun q => ?_) (fun q => ?_) | ((try conv => whnf); first
      | refine bs_d (fun q => ?_) (fun q => ?_)
      | refine bs_n ?_
      | refine bs_i (fun q => ?_) (fun q => ?_)
      | refine ck (by first | rfl | simp) rfl (t1) ?_
      | refine cq (t1) ?_
      | refine ck (by first | rfl | simp) rfl (head) ?_
      | refine cq (head) ?_
      | refine eqk rfl ?_
      | refine ffin _ rfl rfl hS (Sub.refl _) rfl ⟨?_, rfl, rfl⟩)
    all_goals rfl
  have hpos : 0 < l.length := List.length_pos_iff.2 hn
  have hz := tid_len hT hb
  have t3 := TidyO (l := tidL l) (by omega) (tid_R hT hb hR) (tid_ok hT hb)
  rw [(tidL_t (tid_ok hT hb)).uniq (tid_self hT)] at t3
  have s1 := sameL (tidL l) (tidL l) (by omega) (by omega)
  rw [decide_eq_true rfl] at s1
  have hr1 := Int.tmod_lt_of_pos turn (b := ((lns l).length : Int)) (by omega)
  have hr2 := Int.lt_tmod_of_pos turn (b := ((lns l).length : Int)) (by omega)
  have hrem := remD (a := turn) (b := ((lns l).length : Int)) (by omega)
  obtain ⟨r, hr⟩ : ∃ r, r = turn.tmod ((lns l).length : Int) := ⟨_, rfl⟩
  rw [← hr] at hr1 hr2 hrem
  obtain ⟨k, hk⟩ : ∃ k : Nat, (k : Int) = if r < 0 then r + (lns l).length else r := by
    split
    · exact ⟨(r + (lns l).length).toNat, by omega⟩
    · exact ⟨r.toNat, by omega⟩
  have hkl : k ≤ l.length := by split at hk <;> omega
  have hpm := rot_perm l k
  have hrb : ¬ BadL (l.drop k ++ l.take k) := fun h => hb (bad_perm hpm.symm h)
  have t2 := TidyO (l := l.drop k ++ l.take k) (by rw [← hpm.length_eq]; omega) (fun x hx => hR x (hpm.mem_iff.2 hx)) hrb
  rw [(tidL_t hrb).uniq (tid_perm hpm hT)] at t2
  have happ : lns (l.drop k) ++ lns (l.take k) = lns (l.drop k ++ l.take k) := by simp [lns]
  have hdl : (l.drop k).length ≤ 60 := by rw [List.length_drop]; omega
  have htl : (l.take k).length ≤ 60 := by rw [List.length_take]; omega
  have hfin : ∀ i, i < l.length → Pure 15 [.sl (lns l), (l[i]!).d] (.tup [.int .i64 (sumT l (l[i]!).t), .bool true]) ∧ Pure 15 [.sl (lns (tidL l)), (l[i]!).d] (.tup [.int .i64 (sumT l (l[i]!).t), .bool true]) := by
    intro i hi
    have hf : ¬ big (sumT l (l[i]!).t) := fun h => hb ⟨_, mem_at hi, .inr h⟩
    have o1 := of l (by omega) hR l[i]!
    have o2 := of (tidL l) (by omega) (tid_R hT hb hR) l[i]!
    have hs2 := tid_sum hT (mem_at hi)
    unfold big at hf
    rw [sumS, if_pos (by show _ ≤ sumT l _ ∧ sumT l _ < _; omega)] at o1
    rw [sumS, if_pos (by show _ ≤ sumT (tidL l) _ ∧ sumT (tidL l) _ < _; omega)] at o2
    refine ⟨o1, ?_⟩
    rw [← hs2]; exact o2
  have hrise := hT.st
  obtain ⟨a, ha⟩ : ∃ a, a = tidL l := ⟨_, rfl⟩
  rw [← ha] at t1 t2 t3 s1 hz hfin hrise
  have hal := lns_len a
  have B1 : ¬ ((lns l).length : Int) > 60 := by omega
  have B2 : ¬ ((lns l).length : Int) = 0 := by omega
  have m1 : (lns (l.drop k)).length ≤ maxLen ∧ (lns (l.drop k)).length * 32 ≤ 140737488355328 := by rw [lns_len]; simp [maxLen]; omega
  have m2 : (lns (l.drop k)).length + (lns (l.take k)).length ≤ maxLen ∧ ((lns (l.drop k)).length + (lns (l.take k)).length) * 32 ≤ 140737488355328 := by rw [lns_len, lns_len]; simp [maxLen]; omega
  refine ACalls.fgo c4 rfl fun hS => ?_
  by_cases hneg : r < 0
  · rw [if_pos hneg] at hk
    have hw : IntKind.wrap .i64 (r + ((lns l).length : Int)) = (k : Int) := by rw [hk]; exact wi64_id (by unfold I64; omega)
    repeat' first | with_reducible refine fzD_ite (fun q => ?_) (fun q => ?_) | ((try conv => whnf); first
      | refine bs_f (decide_eq_false B1) ?_
      | refine bs_f (decide_eq_false B2) ?_
      | refine bs_t (decide_eq_true hneg) ?_
      | refine bs_d (fun q => ?_) (fun q => ?_)
      | refine bs_n ?_
      | refine bs_i (fun q => ?_) (fun q => ?_)
      | refine ck (by first | rfl | simp) rfl (t1) ?_
      | refine cq (t1) ?_
      | rw [hrem]
      | refine pK_i (slD_dropL (i := k) hw hkl) ?_
      | refine pK_i (slD_takeL (i := k) hw hkl) ?_
      | refine gk_app0 (src := lns (l.drop k)) rfl rfl (.inr rfl) rfl (ln4 _) m1 ?_
      | (refine gk_app (t := 0) (src := lns (l.take k)) rfl rfl (by rfl) (by rfl) (by rfl) (ln4 _) m2 ?_; rw [happ])
      | refine ckS rfl rfl t2 (.cons (Sub.rd rfl) .nil) ?_
      | refine ck (by first | rfl | simp) rfl (t3) ?_
      | refine cq (t3) ?_
      | refine ck (by first | rfl | simp) rfl (s1) ?_
      | refine cq (s1) ?_
      | refine eqk rfl ?_
      | refine ffin _ rfl rfl hS (Sub.refl _) rfl ⟨?_, rfl, rfl⟩)
    conv => whnf
    refine floop (α := Nat) rfl rfl hS (fun i => 1 ≤ i ∧ i ≤ a.length + 1) (fun i => a.length + 1 - i) (fun i => [(12, .d (.int .i64 i)), (5, .d (.sl (lns a))), (0, .d (.sl (lns l)))]) (fun _ => []) (fun _ => []) 1 ⟨by omega, by omega⟩ (fstep_drop (J' := []) (Jx := []) (TK' := []) (TKx := [_]) rfl rfl ⟨Sub.refl _, Sub.refl _, Sub.refl _, trivial⟩ (by simp [frD, FD.to, frSc, D.sc, scLL_lns]) rfl) ?_
    rintro i ⟨hi1, hi2⟩
    by_cases hlt : i < a.length
    · have hls := rless a[i - 1]! a[i]!
      rw [decide_eq_true (rise_at hrise hi1 hlt)] at hls
      have hwi : IntKind.wrap .i64 ((i : Int) - 1) = ((i - 1 : Nat) : Int) := by rw [wi64_id (by unfold I64; omega)]; omega
      repeat' first | with_reducible refine fzD_ite (fun q => ?_) (fun q => ?_) | ((try conv => whnf); first
        | refine bs_t (decide_eq_true (show (i : Int) < (lns a).length by omega)) ?_
        | refine bs_d (fun q => ?_) (fun q => ?_)
        | refine bs_n ?_
        | refine bs_i (fun q => ?_) (fun q => ?_)
        | refine pK_i (iaD_ln (i := i - 1) hwi (by omega)) ?_
        | refine pK_i (iaD_ln (i := i) rfl hlt) ?_
        | refine ck (by first | rfl | simp) rfl (hls) ?_
        | refine cq (hls) ?_
        | refine eqk rfl ?_
        | refine ffin _ rfl rfl hS (Sub.refl _) rfl ⟨?_, rfl, rfl⟩)
      conv => whnf
      exact fnext (α := Nat) (i + 1) ⟨by omega, by omega⟩ (by omega) (fstep_sub ⟨Sub.int (by first | rfl | omega | (refine Int.sub_eq_zero.mp ?_; simp (disch := ((try unfold I64); omega)) only [wi64_id, td]; omega)), Sub.refl _, Sub.refl _, trivial⟩)
    · skip
      repeat' first | with_reducible refine fzD_ite (fun q => ?_) (fun q => ?_) | ((try conv => whnf); first
        | refine bs_f (decide_eq_false (show ¬ (i : Int) < (lns a).length by omega)) ?_
        | refine bs_d (fun q => ?_) (fun q => ?_)
        | refine bs_n ?_
        | refine bs_i (fun q => ?_) (fun q => ?_)
        | refine eqk rfl ?_
        | refine ffin _ rfl rfl hS (Sub.refl _) rfl ⟨?_, rfl, rfl⟩)
      conv => whnf
      refine floop (α := Nat) rfl rfl hS (fun i => i ≤ l.length) (fun i => l.length - i) (fun i => [(13, .d (.int .i64 i)), (5, .d (.sl (lns a))), (0, .d (.sl (lns l)))]) (fun _ => []) (fun _ => []) 0 (Nat.zero_le _) (fstep_sub ⟨Sub.refl _, Sub.refl _, Sub.refl _, trivial⟩) ?_
      intro i hi
      by_cases hlt : i < l.length
      · obtain ⟨o1, o2⟩ := hfin i hlt
        repeat' first | with_reducible refine fzD_ite (fun q => ?_) (fun q => ?_) | ((try conv => whnf); first
          | refine bs_t (decide_eq_true (show (i : Int) < (lns l).length by omega)) ?_
          | refine bs_t (decide_eq_true rfl) ?_
          | refine bs_d (fun q => ?_) (fun q => ?_)
          | refine bs_n ?_
          | refine bs_i (fun q => ?_) (fun q => ?_)
          | refine pK_i (iaD_ln (i := i) rfl hlt) ?_
          | refine ck (by first | rfl | simp) rfl (o1) ?_
          | refine cq (o1) ?_
          | refine ck (by first | rfl | simp) rfl (o2) ?_
          | refine cq (o2) ?_
          | refine eqk rfl ?_
          | refine ffin _ rfl rfl hS (Sub.refl _) rfl ⟨?_, rfl, rfl⟩)
        conv => whnf
        exact fnext (α := Nat) (i + 1) (by omega) (by omega) (fstep_sub ⟨Sub.int (by first | rfl | omega | (refine Int.sub_eq_zero.mp ?_; simp (disch := ((try unfold I64); omega)) only [wi64_id, td]; omega)), Sub.refl _, Sub.refl _, trivial⟩)
      · skip
        repeat' first | with_reducible refine fzD_ite (fun q => ?_) (fun q => ?_) | ((try conv => whnf); first
          | refine bs_f (decide_eq_false (show ¬ (i : Int) < (lns l).length by omega)) ?_
          | refine bs_d (fun q => ?_) (fun q => ?_)
          | refine bs_n ?_
          | refine bs_i (fun q => ?_) (fun q => ?_)
          | refine ck (by first | rfl | simp) rfl (head) ?_
          | refine cq (head) ?_
          | refine eqk rfl ?_
          | refine ffin _ rfl rfl hS (Sub.refl _) rfl ⟨?_, rfl, rfl⟩)
        all_goals rfl
  · rw [if_neg hneg] at hk
    repeat' first | with_reducible refine fzD_ite (fun q => ?_) (fun q => ?_) | ((try conv => whnf); first
      | refine bs_f (decide_eq_false B1) ?_
      | refine bs_f (decide_eq_false B2) ?_
      | refine bs_f (decide_eq_false hneg) ?_
      | refine bs_d (fun q => ?_) (fun q => ?_)
      | refine bs_n ?_
      | refine bs_i (fun q => ?_) (fun q => ?_)
      | refine ck (by first | rfl | simp) rfl (t1) ?_
      | refine cq (t1) ?_
      | rw [hrem]
      | refine pK_i (slD_dropL (i := k) hk.symm hkl) ?_
      | refine pK_i (slD_takeL (i := k) hk.symm hkl) ?_
      | refine gk_app0 (src := lns (l.drop k)) rfl rfl (.inr rfl) rfl (ln4 _) m1 ?_
      | (refine gk_app (t := 0) (src := lns (l.take k)) rfl rfl (by rfl) (by rfl) (by rfl) (ln4 _) m2 ?_; rw [happ])
      | refine ckS rfl rfl t2 (.cons (Sub.rd rfl) .nil) ?_
      | refine ck (by first | rfl | simp) rfl (t3) ?_
      | refine cq (t3) ?_
      | refine ck (by first | rfl | simp) rfl (s1) ?_
      | refine cq (s1) ?_
      | refine eqk rfl ?_
      | refine ffin _ rfl rfl hS (Sub.refl _) rfl ⟨?_, rfl, rfl⟩)
    conv => whnf
    refine floop (α := Nat) rfl rfl hS (fun i => 1 ≤ i ∧ i ≤ a.length + 1) (fun i => a.length + 1 - i) (fun i => [(12, .d (.int .i64 i)), (5, .d (.sl (lns a))), (0, .d (.sl (lns l)))]) (fun _ => []) (fun _ => []) 1 ⟨by omega, by omega⟩ (fstep_drop (J' := []) (Jx := []) (TK' := []) (TKx := [_]) rfl rfl ⟨Sub.refl _, Sub.refl _, Sub.refl _, trivial⟩ (by simp [frD, FD.to, frSc, D.sc, scLL_lns]) rfl) ?_
    rintro i ⟨hi1, hi2⟩
    by_cases hlt : i < a.length
    · have hls := rless a[i - 1]! a[i]!
      rw [decide_eq_true (rise_at hrise hi1 hlt)] at hls
      have hwi : IntKind.wrap .i64 ((i : Int) - 1) = ((i - 1 : Nat) : Int) := by rw [wi64_id (by unfold I64; omega)]; omega
      repeat' first | with_reducible refine fzD_ite (fun q => ?_) (fun q => ?_) | ((try conv => whnf); first
        | refine bs_t (decide_eq_true (show (i : Int) < (lns a).length by omega)) ?_
        | refine bs_d (fun q => ?_) (fun q => ?_)
        | refine bs_n ?_
        | refine bs_i (fun q => ?_) (fun q => ?_)
        | refine pK_i (iaD_ln (i := i - 1) hwi (by omega)) ?_
        | refine pK_i (iaD_ln (i := i) rfl hlt) ?_
        | refine ck (by first | rfl | simp) rfl (hls) ?_
        | refine cq (hls) ?_
        | refine eqk rfl ?_
        | refine ffin _ rfl rfl hS (Sub.refl _) rfl ⟨?_, rfl, rfl⟩)
      conv => whnf
      exact fnext (α := Nat) (i + 1) ⟨by omega, by omega⟩ (by omega) (fstep_sub ⟨Sub.int (by first | rfl | omega | (refine Int.sub_eq_zero.mp ?_; simp (disch := ((try unfold I64); omega)) only [wi64_id, td]; omega)), Sub.refl _, Sub.refl _, trivial⟩)
    · skip
      repeat' first | with_reducible refine fzD_ite (fun q => ?_) (fun q => ?_) | ((try conv => whnf); first
        | refine bs_f (decide_eq_false (show ¬ (i : Int) < (lns a).length by omega)) ?_
        | refine bs_d (fun q => ?_) (fun q => ?_)
        | refine bs_n ?_
        | refine bs_i (fun q => ?_) (fun q => ?_)
        | refine eqk rfl ?_
        | refine ffin _ rfl rfl hS (Sub.refl _) rfl ⟨?_, rfl, rfl⟩)
      conv => whnf
      refine floop (α := Nat) rfl rfl hS (fun i => i ≤ l.length) (fun i => l.length - i) (fun i => [(13, .d (.int .i64 i)), (5, .d (.sl (lns a))), (0, .d (.sl (lns l)))]) (fun _ => []) (fun _ => []) 0 (Nat.zero_le _) (fstep_sub ⟨Sub.refl _, Sub.refl _, Sub.refl _, trivial⟩) ?_
      intro i hi
      by_cases hlt : i < l.length
      · obtain ⟨o1, o2⟩ := hfin i hlt
        repeat' first | with_reducible refine fzD_ite (fun q => ?_) (fun q => ?_) | ((try conv => whnf); first
          | refine bs_t (decide_eq_true (show (i : Int) < (lns l).length by omega)) ?_
          | refine bs_t (decide_eq_true rfl) ?_
          | refine bs_d (fun q => ?_) (fun q => ?_)
          | refine bs_n ?_
          | refine bs_i (fun q => ?_) (fun q => ?_)
          | refine pK_i (iaD_ln (i := i) rfl hlt) ?_
          | refine ck (by first | rfl | simp) rfl (o1) ?_
          | refine cq (o1) ?_
          | refine ck (by first | rfl | simp) rfl (o2) ?_
          | refine cq (o2) ?_
          | refine eqk rfl ?_
          | refine ffin _ rfl rfl hS (Sub.refl _) rfl ⟨?_, rfl, rfl⟩)
        conv => whnf
        exact fnext (α := Nat) (i + 1) (by omega) (by omega) (fstep_sub ⟨Sub.int (by first | rfl | omega | (refine Int.sub_eq_zero.mp ?_; simp (disch := ((try unfold I64); omega)) only [wi64_id, td]; omega)), Sub.refl _, Sub.refl _, trivial⟩)
      · skip
        repeat' first | with_reducible refine fzD_ite (fun q => ?_) (fun q => ?_) | ((try conv => whnf); first
          | refine bs_f (decide_eq_false (show ¬ (i : Int) < (lns l).length by omega)) ?_
          | refine bs_d (fun q => ?_) (fun q => ?_)
          | refine bs_n ?_
          | refine bs_i (fun q => ?_) (fun q => ?_)
          | refine ck (by first | rfl | simp) rfl (head) ?_
          | refine cq (head) ?_
          | refine eqk rfl ?_
          | refine ffin _ rfl rfl hS (Sub.refl _) rfl ⟨?_, rfl, rfl⟩)
        all_goals rfl
end Go.KL.Ytogpeefldehnkaa.J
