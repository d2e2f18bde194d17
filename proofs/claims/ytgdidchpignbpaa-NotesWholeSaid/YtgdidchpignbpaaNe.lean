/- the document's spread; NotesSpread -/
import Derived.Test.YtgdidchpignbpaaNc
set_option linter.unusedVariables false
set_option linter.unusedSimpArgs false
set_option linter.unusedSectionVars false
set_option maxRecDepth 4000
namespace Go.KL.Ytgdidchpignbpaa
open Go Go.KL Go.RowKit Go.Proofs

theorem c27 : cFun E0.P 27 = some ⟨54, [(6, none)], .seq (.rg [⟨some 6, none, .mv (.k (.bool false))⟩]) (.seq (.seq (.rd [(⟨some 7, none, .mv (.t 0)⟩, none), (⟨some 8, none, .mv (.t 1)⟩, none), (⟨some 9, none, .ia 11 (.t 7) (.t 8)⟩, none), (⟨some 10, none, .fa 3 (.t 9)⟩, none), (⟨some 11, none, .ld 1 false (.t 10)⟩, none), (⟨some 12, none, .mv (.t 0)⟩, none), (⟨some 13, none, .mv (.t 2)⟩, none), (⟨some 14, none, .ia 11 (.t 12) (.t 13)⟩, none), (⟨some 15, none, .fa 3 (.t 14)⟩, none), (⟨some 16, none, .ld 1 false (.t 15)⟩, none), (⟨some 17, none, .bin .neq .leaf (.t 11) (.t 16)⟩, none)]) (.cond (.t 17) (.seq (.rd [(⟨some 18, none, .mv (.t 0)⟩, none), (⟨some 19, none, .mv (.t 1)⟩, none), (⟨some 20, none, .ia 11 (.t 18) (.t 19)⟩, none), (⟨some 21, none, .fa 3 (.t 20)⟩, none), (⟨some 22, none, .ld 1 false (.t 21)⟩, none), (⟨some 23, none, .mv (.t 0)⟩, none), (⟨some 24, none, .mv (.t 2)⟩, none), (⟨some 25, none, .ia 11 (.t 23) (.t 24)⟩, none), (⟨some 26, none, .fa 3 (.t 25)⟩, none), (⟨some 27, none, .ld 1 false (.t 26)⟩, none), (⟨some 28, none, .bin .gtr .leaf (.t 22) (.t 27)⟩, none), (⟨some 6, none, .mv (.t 28)⟩, none)]) .ret) .skip)) (.seq (.seq (.rd [(⟨some 29, none, .mv (.t 0)⟩, none), (⟨some 30, none, .mv (.t 1)⟩, none), (⟨some 31, none, .ia 11 (.t 29) (.t 30)⟩, none), (⟨some 32, none, .fa 0 (.t 31)⟩, none), (⟨some 33, none, .ld 1 false (.t 32)⟩, none), (⟨some 34, none, .mv (.t 0)⟩, none), (⟨some 35, none, .mv (.t 2)⟩, none), (⟨some 36, none, .ia 11 (.t 34) (.t 35)⟩, none), (⟨some 37, none, .fa 0 (.t 36)⟩, none), (⟨some 38, none, .ld 1 false (.t 37)⟩, none), (⟨some 39, none, .bin .neq .leaf (.t 33) (.t 38)⟩, none)]) (.cond (.t 39) (.seq (.rd [(⟨some 40, none, .mv (.t 0)⟩, none), (⟨some 41, none, .mv (.t 1)⟩, none), (⟨some 42, none, .ia 11 (.t 40) (.t 41)⟩, none), (⟨some 43, none, .fa 0 (.t 42)⟩, none), (⟨some 44, none, .ld 1 false (.t 43)⟩, none), (⟨some 45, none, .mv (.t 0)⟩, none), (⟨some 46, none, .mv (.t 2)⟩, none), (⟨some 47, none, .ia 11 (.t 45) (.t 46)⟩, none), (⟨some 48, none, .fa 0 (.t 47)⟩, none), (⟨some 49, none, .ld 1 false (.t 48)⟩, none), (⟨some 50, none, .bin .gtr .leaf (.t 44) (.t 49)⟩, none), (⟨some 6, none, .mv (.t 50)⟩, none)]) .ret) .skip)) (.seq (.rg [⟨some 51, none, .mv (.t 1)⟩, ⟨some 52, none, .mv (.t 2)⟩, ⟨some 53, none, .bin .gtr .leaf (.t 51) (.t 52)⟩, ⟨some 6, none, .mv (.t 53)⟩]) .ret)))⟩ := by kernel_rfl
theorem c86 : cFun E0.P 86 = some ⟨14, [(2, none)], .seq (.rg [⟨some 1, none, .box (.t 0) 26⟩, ⟨some 2, none, .mv (.k (.int .i64 0))⟩]) (.seq (.rg [⟨some 6, none, .ld 11 true (.t 1)⟩, ⟨some 7, none, .call 128 [.t 6]⟩, ⟨some 5, none, .mv (.t 7)⟩, ⟨some 8, none, .ext 0 (.t 5)⟩, ⟨some 9, none, .ext 1 (.t 5)⟩, ⟨some 3, none, .mv (.t 8)⟩, ⟨some 4, none, .mv (.t 9)⟩]) (.seq (.rg [⟨some 10, none, .mv (.t 3)⟩, ⟨some 11, none, .fa 9 (.t 1)⟩, ⟨some 12, none, .ld 1 false (.t 11)⟩, ⟨some 13, none, .bin .add .leaf (.t 10) (.t 12)⟩, ⟨some 2, none, .mv (.t 13)⟩]) .ret))⟩ := by kernel_rfl
theorem c24 : cFun E0.P 24 = some ⟨77, [(4, none), (5, none)], .seq (.rg [⟨some 4, none, .mv (.k .nilsl)⟩, ⟨some 5, none, .mv (.k (.int .i64 0))⟩]) (.seq (.seq (.rg [⟨some 12, none, .mv (.t 1)⟩, ⟨some 13, none, .bin .lss .leaf (.t 12) (.k (.int .i64 1))⟩]) (.cond (.t 13) (.seq (.rg [⟨some 4, none, .mv (.k .nilsl)⟩, ⟨some 5, none, .mv (.k (.int .i64 2))⟩]) .ret) .skip)) (.seq (.seq (.rg [⟨some 6, none, .mv (.k (.int .i64 0))⟩]) (.block 0 (.loop (.seq (.seq (.rg [⟨some 14, none, .mv (.t 6)⟩, ⟨some 15, none, .mv (.t 0)⟩, ⟨some 16, none, .len 1 (.t 15)⟩, ⟨some 17, none, .bin .lss .leaf (.t 14) (.t 16)⟩]) (.cond (.t 17) .skip (.exit 0))) (.seq (.block 1 (.seq (.rg [⟨some 20, none, .mv (.t 0)⟩, ⟨some 21, none, .mv (.t 6)⟩, ⟨some 22, none, .ia 11 (.t 20) (.t 21)⟩, ⟨some 23, none, .ld 11 true (.t 22)⟩, ⟨some 24, none, .call 75 [.t 23]⟩, ⟨some 25, none, .bin .neq .leaf (.t 24) (.k (.int .i64 0))⟩]) (.cond (.t 25) (.seq (.rg [⟨some 4, none, .mv (.k .nilsl)⟩, ⟨some 5, none, .mv (.k (.int .i64 2))⟩]) .ret) .skip))) (.rg [⟨some 18, none, .mv (.t 6)⟩, ⟨some 19, none, .bin .add .leaf (.t 18) (.k (.int .i64 1))⟩, ⟨some 6, none, .mv (.t 19)⟩])))))) (.seq (.rg [⟨some 7, none, .mv (.k .nilsl)⟩]) (.seq (.rg [⟨some 8, none, .mv (.k (.int .i64 0))⟩]) (.seq (.seq (.rg [⟨some 9, none, .mv (.k (.int .i64 0))⟩]) (.block 2 (.loop (.seq (.seq (.rg [⟨some 26, none, .mv (.t 9)⟩, ⟨some 27, none, .mv (.t 0)⟩, ⟨some 28, none, .len 1 (.t 27)⟩, ⟨some 29, none, .bin .lss .leaf (.t 26) (.t 28)⟩]) (.cond (.t 29) .skip (.exit 2))) (.seq (.block 3 (.seq (.rg [⟨some 32, none, .mv (.t 1)⟩, ⟨some 10, none, .mv (.t 32)⟩]) (.seq (.seq (.rg [⟨some 11, none, .mv (.k (.int .i64 0))⟩]) (.block 4 (.loop (.seq (.seq (.rg [⟨some 33, none, .mv (.t 11)⟩, ⟨some 34, none, .mv (.t 0)⟩, ⟨some 35, none, .len 1 (.t 34)⟩, ⟨some 36, none, .bin .lss .leaf (.t 33) (.t 35)⟩]) (.cond (.t 36) .skip (.exit 4))) (.seq (.block 5 (.seq (.rg [⟨some 39, none, .mv (.t 11)⟩, ⟨some 40, none, .mv (.t 9)⟩, ⟨some 41, none, .bin .neq .leaf (.t 39) (.t 40)⟩, ⟨some 42, none, .mv (.t 41)⟩, ⟨some 43, some (42, true), .mv (.t 0)⟩, ⟨some 44, some (42, true), .mv (.t 11)⟩, ⟨some 45, some (42, true), .mv (.t 9)⟩, ⟨some 46, some (42, true), .call 27 [.t 43, .t 44, .t 45]⟩, ⟨some 47, none, .pick (.t 42) (.t 46) (.k (.bool false))⟩]) (.cond (.t 47) (.rg [⟨some 48, none, .mv (.t 10)⟩, ⟨some 49, none, .mv (.t 10)⟩, ⟨some 50, none, .mv (.t 0)⟩, ⟨some 51, none, .mv (.t 11)⟩, ⟨some 52, none, .ia 11 (.t 50) (.t 51)⟩, ⟨some 53, none, .ld 11 true (.t 52)⟩, ⟨some 54, none, .call 86 [.t 53]⟩, ⟨some 55, none, .mm false [.t 49, .t 54]⟩, ⟨some 56, none, .bin .sub .leaf (.t 48) (.t 55)⟩, ⟨some 10, none, .mv (.t 56)⟩]) .skip))) (.rg [⟨some 37, none, .mv (.t 11)⟩, ⟨some 38, none, .bin .add .leaf (.t 37) (.k (.int .i64 1))⟩, ⟨some 11, none, .mv (.t 38)⟩])))))) (.seq (.rg [⟨some 57, none, .mv (.t 7)⟩, ⟨some 58, none, .mv (.t 10)⟩, ⟨some 59, none, .mv (.t 0)⟩, ⟨some 60, none, .mv (.t 9)⟩, ⟨some 61, none, .ia 11 (.t 59) (.t 60)⟩, ⟨some 62, none, .ld 11 true (.t 61)⟩, ⟨some 63, none, .call 86 [.t 62]⟩, ⟨some 64, none, .mm false [.t 58, .t 63]⟩, ⟨some 65, none, .buildS 1 1 [.int .i64 0] [(0, .t 64)] 2⟩, ⟨some 66, none, .app 47 2 1 8 [.int .i64 0] (.t 57) (.t 65)⟩, ⟨some 7, none, .mv (.t 66)⟩]) (.rg [⟨some 67, none, .mv (.t 8)⟩, ⟨some 68, none, .mv (.t 7)⟩, ⟨some 69, none, .mv (.t 9)⟩, ⟨some 70, none, .ia 1 (.t 68) (.t 69)⟩, ⟨some 71, none, .ld 1 false (.t 70)⟩, ⟨some 72, none, .bin .add .leaf (.t 67) (.t 71)⟩, ⟨some 8, none, .mv (.t 72)⟩]))))) (.rg [⟨some 30, none, .mv (.t 9)⟩, ⟨some 31, none, .bin .add .leaf (.t 30) (.k (.int .i64 1))⟩, ⟨some 9, none, .mv (.t 31)⟩])))))) (.seq (.seq (.rg [⟨some 73, none, .mv (.t 8)⟩, ⟨some 74, none, .mv (.t 1)⟩, ⟨some 75, none, .bin .neq .leaf (.t 73) (.t 74)⟩]) (.cond (.t 75) (.seq (.rg [⟨some 4, none, .mv (.k .nilsl)⟩, ⟨some 5, none, .mv (.k (.int .i64 9))⟩]) .ret) .skip)) (.seq (.rg [⟨some 76, none, .mv (.t 7)⟩, ⟨some 4, none, .mv (.t 76)⟩, ⟨some 5, none, .mv (.k (.int .i64 0))⟩]) .ret)))))))⟩ := by kernel_rfl
theorem c4 : cFun E0.P 4 = some ⟨36, [(4, none)], .seq (.rg [⟨some 4, none, .mv (.k (.bool false))⟩]) (.seq (.seq (.rg [⟨some 9, none, .mv (.t 0)⟩, ⟨some 10, none, .len 1 (.t 9)⟩, ⟨some 11, none, .bin .gtr .leaf (.t 10) (.k (.int .i64 40))⟩]) (.cond (.t 11) (.seq (.rg [⟨some 12, none, .call 15 []⟩, ⟨some 4, none, .mv (.t 12)⟩]) .ret) .skip)) (.seq (.rg [⟨some 14, none, .mv (.t 0)⟩, ⟨some 15, none, .mv (.t 1)⟩, ⟨some 16, none, .call 23 [.t 14, .t 15]⟩, ⟨some 13, none, .mv (.t 16)⟩, ⟨some 17, none, .ext 0 (.t 13)⟩, ⟨some 18, none, .ext 1 (.t 13)⟩, ⟨some 5, none, .mv (.t 17)⟩, ⟨some 6, none, .mv (.t 18)⟩]) (.seq (.rg [⟨some 20, none, .mv (.t 0)⟩, ⟨some 21, none, .mv (.t 1)⟩, ⟨some 22, none, .call 24 [.t 20, .t 21]⟩, ⟨some 19, none, .mv (.t 22)⟩, ⟨some 23, none, .ext 0 (.t 19)⟩, ⟨some 24, none, .ext 1 (.t 19)⟩, ⟨some 7, none, .mv (.t 23)⟩, ⟨some 8, none, .mv (.t 24)⟩]) (.seq (.rg [⟨some 25, none, .mv (.t 5)⟩, ⟨some 26, none, .mv (.t 7)⟩, ⟨some 27, none, .call 25 [.t 25, .t 26]⟩, ⟨some 28, none, .mv (.t 27)⟩, ⟨some 29, some (28, true), .mv (.t 6)⟩, ⟨some 30, some (28, true), .mv (.t 8)⟩, ⟨some 31, some (28, true), .bin .eql .leaf (.t 29) (.t 30)⟩, ⟨some 32, none, .pick (.t 28) (.t 31) (.k (.bool false))⟩, ⟨some 33, none, .mv (.t 32)⟩, ⟨some 34, some (33, true), .call 15 []⟩, ⟨some 35, none, .pick (.t 33) (.t 34) (.k (.bool false))⟩, ⟨some 4, none, .mv (.t 35)⟩]) .ret))))⟩ := by kernel_rfl

theorem room (x : Iv) (hx : x.R) (hok : x.ok) : Pure 86 [x.d] (.int .i64 x.room) := by
  intro S tk
  have h := refOpen x hx
  rw [if_pos hok, ← op_ok hok] at h
  have hr := room_bd hok
  have hw : IntKind.wrap .i64 (x.op + x.pd) = x.room := wi64_id (by unfold Iv.room at hr; unfold I64; omega)
  refine ACalls.fgo c86 rfl fun hS => ?_
  repeat' first | with_reducible refine fzD_ite (fun q => ?_) (fun q => ?_) | ((try conv => whnf); first
    | refine bs_d (fun q => ?_) (fun q => ?_)
    | refine bs_n ?_
    | refine bs_i (fun q => ?_) (fun q => ?_)
    | refine ck (by first | rfl | simp) rfl (h) ?_
    | refine cq (h) ?_
    | refine eqk rfl ?_
    | refine ffin _ rfl rfl hS (Sub.refl _) rfl ⟨?_, rfl, rfl⟩)
  rw [← hw]; rfl
theorem laterC (l : List Iv) (i k : Nat) (hi : i < l.length) (hk : k < l.length) : Pure 27 [.sl (ivs l), .int .i64 i, .int .i64 k] (.bool (decide (later l i k))) := by
  intro S tk
  by_cases h1 : l[i]!.day = l[k]!.day
  · by_cases h2 : l[i]!.id = l[k]!.id
    · rw [show decide (later l i k) = decide ((i : Int) > k) from decide_eq_decide.2 (by unfold later; omega)]
      refine ACalls.fgo c27 rfl fun hS => ?_
      repeat' first | with_reducible refine fzD_ite (fun q => ?_) (fun q => ?_) | ((try conv => whnf); first
        | refine bs_t (decide_eq_true h1) ?_
        | refine bs_t (decide_eq_true h2) ?_
        | refine bs_d (fun q => ?_) (fun q => ?_)
        | refine bs_n ?_
        | refine bs_i (fun q => ?_) (fun q => ?_)
        | refine pK_i (iaD_iv (i := i) rfl hi) ?_
        | refine pK_i (iaD_iv (i := k) rfl hk) ?_
        | refine eqk rfl ?_
        | refine ffin _ rfl rfl hS (Sub.refl _) rfl ⟨?_, rfl, rfl⟩)
      all_goals first | rfl | exact congrArg D.bool (decide_eq_true (by omega)).symm | exact congrArg D.bool (decide_eq_false (by omega)).symm
    · rw [show decide (later l i k) = decide (l[i]!.id > l[k]!.id) from decide_eq_decide.2 (by unfold later; omega)]
      refine ACalls.fgo c27 rfl fun hS => ?_
      repeat' first | with_reducible refine fzD_ite (fun q => ?_) (fun q => ?_) | ((try conv => whnf); first
        | refine bs_t (decide_eq_true h1) ?_
        | refine bs_f (decide_eq_false h2) ?_
        | refine bs_d (fun q => ?_) (fun q => ?_)
        | refine bs_n ?_
        | refine bs_i (fun q => ?_) (fun q => ?_)
        | refine pK_i (iaD_iv (i := i) rfl hi) ?_
        | refine pK_i (iaD_iv (i := k) rfl hk) ?_
        | refine eqk rfl ?_
        | refine ffin _ rfl rfl hS (Sub.refl _) rfl ⟨?_, rfl, rfl⟩)
      all_goals first | rfl | exact congrArg D.bool (decide_eq_true (by omega)).symm | exact congrArg D.bool (decide_eq_false (by omega)).symm
  · rw [show decide (later l i k) = decide (l[i]!.day > l[k]!.day) from decide_eq_decide.2 (by unfold later; omega)]
    refine ACalls.fgo c27 rfl fun hS => ?_
    repeat' first | with_reducible refine fzD_ite (fun q => ?_) (fun q => ?_) | ((try conv => whnf); first
      | refine bs_f (decide_eq_false h1) ?_
      | refine bs_d (fun q => ?_) (fun q => ?_)
      | refine bs_n ?_
      | refine bs_i (fun q => ?_) (fun q => ?_)
      | refine pK_i (iaD_iv (i := i) rfl hi) ?_
      | refine pK_i (iaD_iv (i := k) rfl hk) ?_
      | refine eqk rfl ?_
      | refine ffin _ rfl rfl hS (Sub.refl _) rfl ⟨?_, rfl, rfl⟩)
    all_goals first | rfl | exact congrArg D.bool (decide_eq_true (by omega)).symm | exact congrArg D.bool (decide_eq_false (by omega)).symm
theorem ord_ex (l : List Iv) : ∃ o, Ord l o := by
  have hp := List.mergeSort_perm (List.range l.length) (fun i k => !decide (later l k i))
  refine ⟨_, hp, ?_⟩
  have hs := List.pairwise_mergeSort (le := fun i k => !decide (later l k i)) (fun a b c h1 h2 => by
      simp only [Bool.not_eq_true', decide_eq_false_iff_not] at *
      intro h
      rcases later_tri l a b with h3 | h3 | h3
      · exact h2 (later_trans h h3)
      · subst h3; exact h2 h
      · exact h1 h3) (fun a b => by
      simp only [Bool.or_eq_true, Bool.not_eq_true', decide_eq_false_iff_not]
      rcases later_tri l a b with h3 | h3 | h3
      · exact .inl fun h => later_irrefl l a (later_trans h3 h)
      · subst h3; exact .inl (later_irrefl l a)
      · exact .inr fun h => later_irrefl l a (later_trans h h3)) (List.range l.length)
  have hn : (List.mergeSort (List.range l.length) (fun i k => !decide (later l k i))).Nodup := hp.nodup_iff.2 List.nodup_range
  refine (hs.and hn).imp fun {a b} hab => ?_
  have h1 := hab.1
  simp only [Bool.not_eq_true', decide_eq_false_iff_not] at h1
  rcases later_tri l a b with h3 | h3 | h3
  · exact h3
  · exact absurd h3 hab.2
  · exact absurd h3 h1
theorem sum_take_le : ∀ {c : List Int} (i : Nat), (∀ x ∈ c, 0 ≤ x) → 0 ≤ (c.take i).sum ∧ (c.take i).sum ≤ c.sum
  | [], i, _ => by simp
  | a :: c, 0, h => by
    have h1 := h a (by simp)
    have h2 := sum_take_le (c := c) c.length fun x hx => h x (by simp [hx])
    rw [List.take_length] at h2
    simp only [List.take_zero, List.sum_nil, List.sum_cons]; omega
  | a :: c, i + 1, h => by
    have h1 := h a (by simp)
    have h2 := sum_take_le (c := c) i fun x hx => h x (by simp [hx])
    simp only [List.take_succ_cons, List.sum_cons]; omega
theorem ahd_nn {l : List Iv} (hok : ∀ x ∈ l, x.ok) (i : Nat) : 0 ≤ ahd l i := rooms_nn hok fun k hk => List.mem_range.1 (List.mem_filter.1 hk).1
theorem outI_nn {l : List Iv} (hok : ∀ x ∈ l, x.ok) {n : Int} {i : Nat} (hi : i < l.length) : 0 ≤ outI l n i := by
  have h1 := room_bd (hok _ (mem_at hi))
  unfold outI; omega
theorem outs_nn {l : List Iv} (hok : ∀ x ∈ l, x.ok) {n : Int} : ∀ x ∈ outs l n, 0 ≤ x := by
  intro x hx
  obtain ⟨i, hi, rfl⟩ := List.mem_map.1 hx
  exact outI_nn hok (List.mem_range.1 hi)
theorem outs_sum {l : List Iv} (hok : ∀ x ∈ l, x.ok) {n : Int} (hn : 0 ≤ n) : (outs l n).sum = min n (total l) := by
  obtain ⟨o, ho⟩ := ord_ex l
  have key : ∀ j, j ≤ o.length → ((o.take j).map (outI l n)).sum = min n (rooms l (o.take j)) := by
    intro j
    induction j with
    | zero => intro _; simp [rooms]; omega
    | succ j ih =>
      intro hj
      have hj' : j < o.length := by omega
      have ih := ih (by omega)
      have hsplit : o = o.take j ++ o[j]! :: o.drop (j + 1) := by
        rw [getElem!_pos o j hj', ← List.drop_eq_getElem_cons hj', List.take_append_drop]
      have ha := ord_ahd ho hsplit
      have hlt : o[j]! < l.length := List.mem_range.1 (ho.perm.mem_iff.1 (mem_at hj'))
      have hr := room_bd (hok _ (mem_at hlt))
      have hA := rooms_nn hok (p := o.take j) fun i hi => List.mem_range.1 (ho.perm.mem_iff.1 (List.mem_of_mem_take hi))
      rw [take_snA hj', List.map_append, List.sum_append, ih, rooms_snoc]
      simp only [List.map_cons, List.map_nil, List.sum_cons, List.sum_nil, outI, ← ha]
      omega
  have h := key o.length (Nat.le_refl _)
  rw [List.take_length] at h
  rw [outs, total, ← rooms_perm ho.perm, ← h]
  exact (sum_perm (ho.perm.map _)).symm
end Go.KL.Ytgdidchpignbpaa

/- the document's spread; NotesSpread -/
set_option linter.unusedVariables false
set_option linter.unusedSimpArgs false
set_option linter.unusedSectionVars false
set_option maxRecDepth 4000
namespace Go.KL.Ytgdidchpignbpaa
open Go Go.KL Go.RowKit Go.Proofs

def leftI (l : List Iv) (n : Int) (i k : Nat) : Int := max 0 (n - rooms l ((List.range k).filter fun m => decide (later l m i)))
theorem leftI_step {l : List Iv} (hok : ∀ x ∈ l, x.ok) {n : Int} {i k : Nat} (hk : k < l.length) : leftI l n i (k + 1) = if later l k i then leftI l n i k - min (leftI l n i k) l[k]!.room else leftI l n i k := by
  have hr := room_bd (hok _ (mem_at hk))
  have hA := rooms_nn hok (p := (List.range k).filter fun m => decide (later l m i)) fun m hm => by have := List.mem_range.1 (List.mem_filter.1 hm).1; omega
  unfold leftI
  rw [List.range_succ, List.filter_append, List.filter_cons]
  by_cases h : later l k i
  · rw [if_pos (by simpa using h), if_pos h, List.filter_nil, rooms_snoc]; omega
  · rw [if_neg (by simpa using h), if_neg h, List.filter_nil, List.append_nil]
theorem iaD_gI {l : List Int} {t i : Nat} {n : Int} (h : n = i) (hi : i < l.length) : iaD 1 (.gsl (i64s l) t) (.int .i64 n) = some (.pe [.int .i64 l[i]!] 0) := iaD_i h hi
theorem outs_take (l : List Iv) (n : Int) {i : Nat} (hi : i < l.length) : (outs l n).take (i + 1) = (outs l n).take i ++ [outI l n i] := by
  have : i < (outs l n).length := by simp [outs, hi]
  rw [List.take_add_one, List.getElem?_eq_getElem this]
  simp [outs]
theorem outs_len (l : List Iv) (n : Int) : (outs l n).length = l.length := by simp [outs]
set_option maxHeartbeats 2000000 in
theorem refSpread (l : List Iv) (hl : l.length < 1000000) (hx : ∀ x ∈ l, x.R) (n : Int) (hn : I64 n) : Pure 24 [.sl (ivs l), .int .i64 n] (spreadD l n) := by
  intro S tk
  have hlen := ivs_len l
  by_cases h1 : 1 ≤ n
  rotate_left
  · rw [spreadD, if_neg (fun h => h1 h.1)]
    refine ACalls.fgo c24 rfl fun hS => ?_
    repeat' first | with_reducible refine fzD_ite (fun q => ?_) (fun q => ?_) | ((try conv => whnf); first
      | refine bs_t (decide_eq_true (show n < 1 by omega)) ?_
      | refine bs_d (fun q => ?_) (fun q => ?_)
      | refine bs_n ?_
      | refine bs_i (fun q => ?_) (fun q => ?_)
      | refine eqk rfl ?_
      | refine ffin _ rfl rfl hS (Sub.refl _) rfl ⟨?_, rfl, rfl⟩)
    all_goals rfl
  have hn1 : ¬ n < 1 := by omega
  refine ACalls.withSc fun hsc => ?_
  have hsc' : scLL S.length tk.length (ivs l) = true := by simp only [scL, D.sc, Bool.and_true] at hsc; exact hsc
  refine ACalls.fgo c24 rfl fun hS => ?_
  repeat' first | with_reducible refine fzD_ite (fun q => ?_) (fun q => ?_) | ((try conv => whnf); first
    | refine bs_f (decide_eq_false hn1) ?_
    | refine bs_d (fun q => ?_) (fun q => ?_)
    | refine bs_n ?_
    | refine bs_i (fun q => ?_) (fun q => ?_)
    | refine eqk rfl ?_
    | refine ffin _ rfl rfl hS (Sub.refl _) rfl ⟨?_, rfl, rfl⟩)
  conv => whnf
  refine floop (α := Nat) rfl rfl hS (fun i => i ≤ l.length ∧ ∀ x ∈ l.take i, x.ok) (fun i => l.length - i) (fun i => [(6, .d (.int .i64 i)), (0, .d (.sl (ivs l))), (1, .d (.int .i64 n))]) (fun _ => []) (fun _ => []) 0 ⟨by omega, by simp⟩ (fstep_sub ⟨Sub.refl _, Sub.refl _, Sub.refl _, trivial⟩) ?_
  rintro i ⟨hi, hp⟩
  by_cases hlt : i < l.length
  · have hc := refCheck l[i]! (hx _ (mem_at hlt))
    by_cases hok : l[i]!.ok
    · rw [if_pos hok] at hc
      repeat' first | with_reducible refine fzD_ite (fun q => ?_) (fun q => ?_) | ((try conv => whnf); first
        | refine bs_t (decide_eq_true (by rw [hlen]; omega)) ?_
        | refine bs_d (fun q => ?_) (fun q => ?_)
        | refine bs_n ?_
        | refine bs_i (fun q => ?_) (fun q => ?_)
        | refine pK_i (iaD_iv (i := i) rfl hlt) ?_
        | refine ck (by first | rfl | simp) rfl (hc) ?_
        | refine cq (hc) ?_
        | refine eqk rfl ?_
        | refine ffin _ rfl rfl hS (Sub.refl _) rfl ⟨?_, rfl, rfl⟩)
      conv => whnf
      refine fnext (α := Nat) (i + 1) ⟨by omega, fun x hxm => ?_⟩ (by omega) (fstep_sub ⟨Sub.int (by first | rfl | omega | (refine Int.sub_eq_zero.mp ?_; simp (disch := ((try unfold I64); omega)) only [wi64_id, td]; omega)), Sub.refl _, Sub.refl _, trivial⟩)
      rw [take_snA hlt, List.mem_append, List.mem_singleton] at hxm
      rcases hxm with hxm | rfl
      · exact hp x hxm
      · exact hok
    · rw [if_neg hok] at hc
      repeat' first | with_reducible refine fzD_ite (fun q => ?_) (fun q => ?_) | ((try conv => whnf); first
        | refine bs_t (decide_eq_true (by rw [hlen]; omega)) ?_
        | refine bs_d (fun q => ?_) (fun q => ?_)
        | refine bs_n ?_
        | refine bs_i (fun q => ?_) (fun q => ?_)
        | refine pK_i (iaD_iv (i := i) rfl hlt) ?_
        | refine ck (by first | rfl | simp) rfl (hc) ?_
        | refine cq (hc) ?_
        | refine eqk rfl ?_
        | refine ffin _ rfl rfl hS (Sub.refl _) rfl ⟨?_, rfl, rfl⟩)
      rw [spreadD, if_neg (fun h => hok (h.2 _ (mem_at hlt)))]; rfl
  rw [List.take_of_length_le (by omega)] at hp
  rw [spreadD, if_pos ⟨h1, hp⟩]
  have hsum := outs_sum hp (n := n) (by omega)
  have htot := rooms_nn hp (p := List.range l.length) fun i hi => List.mem_range.1 hi
  repeat' first | with_reducible refine fzD_ite (fun q => ?_) (fun q => ?_) | ((try conv => whnf); first
    | refine bs_f (decide_eq_false (by rw [hlen]; omega)) ?_
    | refine bs_d (fun q => ?_) (fun q => ?_)
    | refine bs_n ?_
    | refine bs_i (fun q => ?_) (fun q => ?_)
    | refine eqk rfl ?_
    | refine ffin _ rfl rfl hS (Sub.refl _) rfl ⟨?_, rfl, rfl⟩)
  conv => whnf
  refine floop (α := Nat) rfl rfl hS (fun i => i ≤ l.length) (fun i => l.length - i) (fun i => [(9, .d (.int .i64 i)), (8, .d (.int .i64 ((outs l n).take i).sum)), (7, .d (.gsl (i64s ((outs l n).take i)) (tk.length + 0))), (0, .d (.sl (ivs l))), (1, .d (.int .i64 n))]) (fun _ => []) (fun i => [((i64s ((outs l n).take i)).length, 2, 1)]) 0 (Nat.zero_le _) (fstep_tok 2 1 (t := 7) (.inl rfl) ⟨Sub.refl _, Sub.refl _, Sub.refl _, Sub.refl _, Sub.refl _, trivial⟩) ?_
  intro i hi
  by_cases hlt : i < l.length
  · skip
    repeat' first | with_reducible refine fzD_ite (fun q => ?_) (fun q => ?_) | ((try conv => whnf); first
      | refine bs_t (decide_eq_true (by rw [hlen]; omega)) ?_
      | refine bs_d (fun q => ?_) (fun q => ?_)
      | refine bs_n ?_
      | refine bs_i (fun q => ?_) (fun q => ?_)
      | refine eqk rfl ?_
      | refine ffin _ rfl rfl hS (Sub.refl _) rfl ⟨?_, rfl, rfl⟩)
    conv => whnf
    refine floop (α := Nat) rfl rfl hS (fun k => k ≤ l.length) (fun k => l.length - k) (fun k => [(11, .d (.int .i64 k)), (10, .d (.int .i64 (leftI l n i k))), (9, .d (.int .i64 i)), (8, .d (.int .i64 ((outs l n).take i).sum)), (7, .d (.gsl (i64s ((outs l n).take i)) (tk.length + 0))), (0, .d (.sl (ivs l))), (1, .d (.int .i64 n))]) (fun _ => []) (fun _ => [((i64s ((outs l n).take i)).length, 2, 1)]) 0 (Nat.zero_le _) (fstep_sub ⟨Sub.refl _, Sub.int (by simp [leftI, rooms]; omega), Sub.refl _, Sub.refl _, Sub.refl _, Sub.refl _, Sub.refl _, trivial⟩) ?_
    intro k hk
    by_cases hkl : k < l.length
    · have hrm := room l[k]! (hx _ (mem_at hkl)) (hp _ (mem_at hkl))
      have hst := leftI_step hp (n := n) (i := i) hkl
      have hlt2 := laterC l k i hkl hlt
      have hr := room_bd (hp _ (mem_at hkl))
      have hln : 0 ≤ leftI l n i k ∧ leftI l n i k ≤ n := by
        have hA := rooms_nn hp (p := (List.range k).filter fun m => decide (later l m i)) fun m hm => by have := List.mem_range.1 (List.mem_filter.1 hm).1; omega
        unfold leftI; omega
      have hw : IntKind.wrap .i64 (leftI l n i k - min (leftI l n i k) l[k]!.room) = leftI l n i k - min (leftI l n i k) l[k]!.room := wi64_id (by unfold I64 at *; omega)
      by_cases hki : k = i
      · rw [if_neg (by rw [hki]; exact later_irrefl l i)] at hst
        repeat' first | with_reducible refine fzD_ite (fun q => ?_) (fun q => ?_) | ((try conv => whnf); first
          | refine bs_t (decide_eq_true (show (k : Int) < ((ivs l).length : Int) by rw [hlen]; omega)) ?_
          | refine bs_t (decide_eq_true (show (k : Int) = (i : Int) by omega)) ?_
          | refine bs_d (fun q => ?_) (fun q => ?_)
          | refine bs_n ?_
          | refine bs_i (fun q => ?_) (fun q => ?_)
          | refine eqk rfl ?_
          | refine ffin _ rfl rfl hS (Sub.refl _) rfl ⟨?_, rfl, rfl⟩)
        conv => whnf
        exact fnext (α := Nat) (k + 1) (by omega) (by omega) (fstep_sub ⟨Sub.int (by first | rfl | omega | (refine Int.sub_eq_zero.mp ?_; simp (disch := ((try unfold I64); omega)) only [wi64_id, td]; omega)), Sub.int hst.symm, Sub.refl _, Sub.refl _, Sub.refl _, Sub.refl _, Sub.refl _, trivial⟩)
      · by_cases hla : later l k i
        · rw [if_pos hla] at hst
          rw [decide_eq_true hla] at hlt2
          repeat' first | with_reducible refine fzD_ite (fun q => ?_) (fun q => ?_) | ((try conv => whnf); first
            | refine bs_t (decide_eq_true (show (k : Int) < ((ivs l).length : Int) by rw [hlen]; omega)) ?_
            | refine bs_f (decide_eq_false (show ¬ (k : Int) = (i : Int) by omega)) ?_
            | refine bs_d (fun q => ?_) (fun q => ?_)
            | refine bs_n ?_
            | refine bs_i (fun q => ?_) (fun q => ?_)
            | refine ck (by first | rfl | simp) rfl (hlt2) ?_
            | refine cq (hlt2) ?_
            | refine pK_i (iaD_iv (i := k) rfl hkl) ?_
            | refine ck (by first | rfl | simp) rfl (hrm) ?_
            | refine cq (hrm) ?_
            | refine eqk rfl ?_
            | refine ffin _ rfl rfl hS (Sub.refl _) rfl ⟨?_, rfl, rfl⟩)
          conv => whnf
          exact fnext (α := Nat) (k + 1) (by omega) (by omega) (fstep_sub ⟨Sub.int (by first | rfl | omega | (refine Int.sub_eq_zero.mp ?_; simp (disch := ((try unfold I64); omega)) only [wi64_id, td]; omega)), Sub.int (by rw [hst]; exact hw), Sub.refl _, Sub.refl _, Sub.refl _, Sub.refl _, Sub.refl _, trivial⟩)
        · rw [if_neg hla] at hst
          rw [decide_eq_false hla] at hlt2
          repeat' first | with_reducible refine fzD_ite (fun q => ?_) (fun q => ?_) | ((try conv => whnf); first
            | refine bs_t (decide_eq_true (show (k : Int) < ((ivs l).length : Int) by rw [hlen]; omega)) ?_
            | refine bs_f (decide_eq_false (show ¬ (k : Int) = (i : Int) by omega)) ?_
            | refine bs_d (fun q => ?_) (fun q => ?_)
            | refine bs_n ?_
            | refine bs_i (fun q => ?_) (fun q => ?_)
            | refine ck (by first | rfl | simp) rfl (hlt2) ?_
            | refine cq (hlt2) ?_
            | refine eqk rfl ?_
            | refine ffin _ rfl rfl hS (Sub.refl _) rfl ⟨?_, rfl, rfl⟩)
          conv => whnf
          exact fnext (α := Nat) (k + 1) (by omega) (by omega) (fstep_sub ⟨Sub.int (by first | rfl | omega | (refine Int.sub_eq_zero.mp ?_; simp (disch := ((try unfold I64); omega)) only [wi64_id, td]; omega)), Sub.int hst.symm, Sub.refl _, Sub.refl _, Sub.refl _, Sub.refl _, Sub.refl _, trivial⟩)
    · obtain rfl : k = l.length := by omega
      have hrm := room l[i]! (hx _ (mem_at hlt)) (hp _ (mem_at hlt))
      have hout : min (leftI l n i l.length) l[i]!.room = outI l n i := rfl
      have hos := outs_take l n hlt
      have hol := outs_len l n
      have hgl : i64s ((outs l n).take i) ++ [[.int .i64 (min (leftI l n i l.length) l[i]!.room)]] = i64s ((outs l n).take (i + 1)) := by rw [hos, hout]; simp [i64s]
      have hil : i < ((outs l n).take (i + 1)).length := by rw [List.length_take]; omega
      have hat : ((outs l n).take (i + 1))[i]! = outI l n i := by
        rw [getElem!_pos _ i hil]
        simp [outs]
      have hnn := outs_nn hp (n := n)
      have hs1 := sum_take_le (c := outs l n) (i + 1) hnn
      have hs2 : ((outs l n).take (i + 1)).sum = ((outs l n).take i).sum + outI l n i := by rw [hos]; simp
      have hw : IntKind.wrap .i64 (((outs l n).take i).sum + ((outs l n).take (i + 1))[i]!) = ((outs l n).take (i + 1)).sum := by rw [hat, ← hs2]; exact wi64_id (by unfold I64 at *; omega)
      repeat' first | with_reducible refine fzD_ite (fun q => ?_) (fun q => ?_) | ((try conv => whnf); first
        | refine bs_f (decide_eq_false (show ¬ (l.length : Int) < ((ivs l).length : Int) by rw [hlen]; omega)) ?_
        | refine bs_d (fun q => ?_) (fun q => ?_)
        | refine bs_n ?_
        | refine bs_i (fun q => ?_) (fun q => ?_)
        | refine pK_i (iaD_iv (i := i) rfl hlt) ?_
        | refine ck (by first | rfl | simp) rfl (hrm) ?_
        | refine cq (hrm) ?_
        | (refine gk_app (t := 0) (src := [[.int .i64 (min (leftI l n i l.length) l[i]!.room)]]) rfl rfl (by rfl) (by rfl) (by rfl) (by simp) (by rw [i64s_len, List.length_take]; simp [maxLen]; omega) ?_; rw [hgl])
        | refine pK_i (iaD_gI (i := i) rfl hil) ?_
        | refine eqk rfl ?_
        | refine ffin _ rfl rfl hS (Sub.refl _) rfl ⟨?_, rfl, rfl⟩)
      conv => whnf
      exact fnext (α := Nat) (i + 1) (by omega) (by omega) (fstep_sub ⟨Sub.int (by first | rfl | omega | (refine Int.sub_eq_zero.mp ?_; simp (disch := ((try unfold I64); omega)) only [wi64_id, td]; omega)), Sub.int hw, Sub.refl _, Sub.refl _, Sub.refl _, trivial⟩)
  · obtain rfl : i = l.length := by omega
    have hol := outs_len l n
    rw [List.take_of_length_le (by omega)]
    by_cases ht : total l < n
    · rw [if_pos ht]
      repeat' first | with_reducible refine fzD_ite (fun q => ?_) (fun q => ?_) | ((try conv => whnf); first
        | refine bs_f (decide_eq_false (by rw [hlen]; omega)) ?_
        | refine bs_f (decide_eq_false (show ¬ (outs l n).sum = n by omega)) ?_
        | refine bs_d (fun q => ?_) (fun q => ?_)
        | refine bs_n ?_
        | refine bs_i (fun q => ?_) (fun q => ?_)
        | refine eqk rfl ?_
        | refine ffin _ rfl rfl hS (Sub.refl _) rfl ⟨?_, rfl, rfl⟩)
      all_goals rfl
    · rw [if_neg ht]
      repeat' first | with_reducible refine fzD_ite (fun q => ?_) (fun q => ?_) | ((try conv => whnf); first
        | refine bs_f (decide_eq_false (by rw [hlen]; omega)) ?_
        | refine bs_t (decide_eq_true (show (outs l n).sum = n by omega)) ?_
        | refine bs_d (fun q => ?_) (fun q => ?_)
        | refine bs_n ?_
        | refine bs_i (fun q => ?_) (fun q => ?_)
        | refine ffin (.tup [.sl (i64s (outs l n)), .int .i64 0]) rfl rfl hS (Sub.tup (.cons (Sub.rd rfl) (.cons (Sub.refl _) .nil))) (by simp [D.sc, scL, scL_i64s]) ⟨rfl, rfl, rfl⟩
        | refine eqk rfl ?_
        | refine ffin _ rfl rfl hS (Sub.refl _) rfl ⟨?_, rfl, rfl⟩)
end Go.KL.Ytgdidchpignbpaa

/- NotesSpread -/
set_option linter.unusedVariables false
set_option linter.unusedSimpArgs false
set_option linter.unusedSectionVars false
set_option maxRecDepth 4000
namespace Go.KL.Ytgdidchpignbpaa
open Go Go.KL Go.RowKit Go.Proofs

theorem sameN : Pure 25 [.nilsl, .nilsl] (.bool true) := fun S tk =>
  (sameI [] [] (by simp) (by simp) S tk).sub (.cons (Sub.rd (es := i64s []) rfl) (.cons (Sub.rd (es := i64s []) rfl) .nil))
theorem notesSpread (l : List Iv) (hx : ∀ x ∈ l, x.R) (n : Int) (hn : I64 n) : Pure 4 [.sl (ivs l), .int .i64 n] (.bool true) := by
  intro S tk
  have hlen := ivs_len l
  by_cases hbig : 40 < l.length
  · refine ACalls.fgo c4 rfl fun hS => ?_
    repeat' first | with_reducible refine fzD_ite (fun q => ?_) (fun q => ?_) | ((try conv => whnf); first
      | refine bs_t (decide_eq_true (by rw [hlen]; omega)) ?_
      | refine bs_d (fun q => ?_) (fun q => ?_)
      | refine bs_n ?_
      | refine bs_i (fun q => ?_) (fun q => ?_)
      | refine ck (by first | rfl | simp) rfl (head) ?_
      | refine cq (head) ?_
      | refine eqk rfl ?_
      | refine ffin _ rfl rfl hS (Sub.refl _) rfl ⟨?_, rfl, rfl⟩)
    all_goals rfl
  have h1 := Spread l (by omega) hx n hn
  have h2 := refSpread l (by omega) hx n hn
  have hs := sameI (outs l n) (outs l n) (by rw [outs_len]; omega) (by rw [outs_len]; omega)
  rw [decide_eq_true rfl] at hs
  rw [spreadD] at h1 h2
  by_cases c1 : 1 ≤ n ∧ ∀ x ∈ l, x.ok
  · rw [if_pos c1] at h1 h2
    by_cases c2 : total l < n
    · rw [if_pos c2] at h1 h2
      refine ACalls.fgo c4 rfl fun hS => ?_
      repeat' first | with_reducible refine fzD_ite (fun q => ?_) (fun q => ?_) | ((try conv => whnf); first
        | refine bs_f (decide_eq_false (by rw [hlen]; omega)) ?_
        | refine bs_d (fun q => ?_) (fun q => ?_)
        | refine bs_n ?_
        | refine bs_i (fun q => ?_) (fun q => ?_)
        | refine ck (by first | rfl | simp) rfl (h1) ?_
        | refine cq (h1) ?_
        | refine ck (by first | rfl | simp) rfl (h2) ?_
        | refine cq (h2) ?_
        | refine ck (by first | rfl | simp) rfl (sameN) ?_
        | refine cq (sameN) ?_
        | refine ck (by first | rfl | simp) rfl (head) ?_
        | refine cq (head) ?_
        | refine eqk rfl ?_
        | refine ffin _ rfl rfl hS (Sub.refl _) rfl ⟨?_, rfl, rfl⟩)
      all_goals rfl
    · rw [if_neg c2] at h1 h2
      refine ACalls.fgo c4 rfl fun hS => ?_
      repeat' first | with_reducible refine fzD_ite (fun q => ?_) (fun q => ?_) | ((try conv => whnf); first
        | refine bs_f (decide_eq_false (by rw [hlen]; omega)) ?_
        | refine bs_d (fun q => ?_) (fun q => ?_)
        | refine bs_n ?_
        | refine bs_i (fun q => ?_) (fun q => ?_)
        | refine ck (by first | rfl | simp) rfl (h1) ?_
        | refine cq (h1) ?_
        | refine ck (by first | rfl | simp) rfl (h2) ?_
        | refine cq (h2) ?_
        | refine ck (by first | rfl | simp) rfl (hs) ?_
        | refine cq (hs) ?_
        | refine ck (by first | rfl | simp) rfl (head) ?_
        | refine cq (head) ?_
        | refine eqk rfl ?_
        | refine ffin _ rfl rfl hS (Sub.refl _) rfl ⟨?_, rfl, rfl⟩)
      all_goals rfl
  · rw [if_neg c1] at h1 h2
    refine ACalls.fgo c4 rfl fun hS => ?_
    repeat' first | with_reducible refine fzD_ite (fun q => ?_) (fun q => ?_) | ((try conv => whnf); first
      | refine bs_f (decide_eq_false (by rw [hlen]; omega)) ?_
      | refine bs_d (fun q => ?_) (fun q => ?_)
      | refine bs_n ?_
      | refine bs_i (fun q => ?_) (fun q => ?_)
      | refine ck (by first | rfl | simp) rfl (h1) ?_
      | refine cq (h1) ?_
      | refine ck (by first | rfl | simp) rfl (h2) ?_
      | refine cq (h2) ?_
      | refine ck (by first | rfl | simp) rfl (sameN) ?_
      | refine cq (sameN) ?_
      | refine ck (by first | rfl | simp) rfl (head) ?_
      | refine cq (head) ?_
      | refine eqk rfl ?_
      | refine ffin _ rfl rfl hS (Sub.refl _) rfl ⟨?_, rfl, rfl⟩)
    all_goals rfl
end Go.KL.Ytgdidchpignbpaa
