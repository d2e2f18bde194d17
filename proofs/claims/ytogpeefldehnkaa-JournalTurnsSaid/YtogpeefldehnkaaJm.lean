/- JournalTidies, JournalTurns -/
import Derived.Test.YtogpeefldehnkaaJg
set_option linter.unusedVariables false
set_option linter.unusedSimpArgs false
set_option linter.unusedSectionVars false
set_option maxRecDepth 4000
namespace Go.KL.Ytogpeefldehnkaa.J
open Go Go.KL Go.RowKit Go.Proofs Go.KL.Ytogpeefldehnkaa

theorem c3 : cFun E0.P 3 = some ⟨41, [(2, none)], .seq (.rg [⟨some 2, none, .mv (.k (.bool false))⟩]) (.seq (.seq (.rg [⟨some 8, none, .mv (.t 0)⟩, ⟨some 9, none, .len 1 (.t 8)⟩, ⟨some 10, none, .bin .gtr .leaf (.t 9) (.k (.int .i64 60))⟩]) (.cond (.t 10) (.seq (.rg [⟨some 11, none, .call 10 []⟩, ⟨some 2, none, .mv (.t 11)⟩]) .ret) .skip)) (.seq (.rg [⟨some 12, none, .buildS 0 4 [.int .i64 0, .int .u64 0, .int .u64 0, .int .i64 0] [] 34⟩, ⟨some 13, none, .mv (.t 0)⟩, ⟨some 14, none, .app 22 34 4 32 [.int .i64 0, .int .u64 0, .int .u64 0, .int .i64 0] (.t 12) (.t 13)⟩, ⟨some 3, none, .mv (.t 14)⟩]) (.seq (.rg [⟨some 16, none, .mv (.t 3)⟩, ⟨some 17, none, .call 11 [.t 16]⟩, ⟨some 15, none, .mv (.t 17)⟩, ⟨some 18, none, .ext 0 (.t 15)⟩, ⟨some 19, none, .ext 1 (.t 15)⟩, ⟨some 4, none, .mv (.t 18)⟩, ⟨some 5, none, .mv (.t 19)⟩]) (.seq (.rg [⟨some 21, none, .mv (.t 0)⟩, ⟨some 22, none, .call 12 [.t 21]⟩, ⟨some 20, none, .mv (.t 22)⟩, ⟨some 23, none, .ext 0 (.t 20)⟩, ⟨some 24, none, .ext 1 (.t 20)⟩, ⟨some 6, none, .mv (.t 23)⟩, ⟨some 7, none, .mv (.t 24)⟩]) (.seq (.rg [⟨some 25, none, .mv (.t 4)⟩, ⟨some 26, none, .mv (.t 6)⟩, ⟨some 27, none, .call 13 [.t 25, .t 26]⟩, ⟨some 28, none, .mv (.t 27)⟩, ⟨some 29, some (28, true), .mv (.t 5)⟩, ⟨some 30, some (28, true), .mv (.t 7)⟩, ⟨some 31, some (28, true), .bin .eql .leaf (.t 29) (.t 30)⟩, ⟨some 32, none, .pick (.t 28) (.t 31) (.k (.bool false))⟩, ⟨some 33, none, .mv (.t 32)⟩, ⟨some 34, some (33, true), .mv (.t 3)⟩, ⟨some 35, some (33, true), .mv (.t 0)⟩, ⟨some 36, some (33, true), .call 13 [.t 34, .t 35]⟩, ⟨some 37, none, .pick (.t 33) (.t 36) (.k (.bool false))⟩, ⟨some 38, none, .mv (.t 37)⟩, ⟨some 39, some (38, true), .call 10 []⟩, ⟨some 40, none, .pick (.t 38) (.t 39) (.k (.bool false))⟩, ⟨some 2, none, .mv (.t 40)⟩]) .ret)))))⟩ := by kernel_rfl
theorem c6 : cFun E0.P 6 = some ⟨123, [(4, none)], .seq (.rg [⟨some 2, none, .box (.t 0) 39⟩, ⟨some 4, none, .mv (.k (.bool false))⟩]) (.seq (.seq (.rg [⟨some 16, none, .fa 3 (.t 2)⟩, ⟨some 17, none, .ld 1 false (.t 16)⟩, ⟨some 18, none, .len 1 (.t 17)⟩, ⟨some 19, none, .bin .gtr .leaf (.t 18) (.k (.int .i64 100))⟩]) (.cond (.t 19) (.seq (.rg [⟨some 20, none, .call 10 []⟩, ⟨some 4, none, .mv (.t 20)⟩]) .ret) .skip)) (.seq (.seq (.rg [⟨some 21, none, .ld 4 true (.t 2)⟩, ⟨some 22, none, .call 17 [.t 21]⟩, ⟨some 23, none, .bin .neq .leaf (.t 22) (.k (.int .i64 0))⟩]) (.cond (.t 23) (.seq (.rg [⟨some 25, none, .ld 4 true (.t 2)⟩, ⟨some 26, none, .mv (.t 1)⟩, ⟨some 27, none, .call 22 [.t 25, .t 26]⟩, ⟨some 24, none, .mv (.t 27)⟩, ⟨some 28, none, .ext 0 (.t 24)⟩, ⟨some 29, none, .ext 1 (.t 24)⟩, ⟨some 5, none, .alloc [.int .i64 0, .int .u8 0, .int .u64 0, .nilsl] 39⟩, ⟨none, none, .st 4 (.t 5) (.t 28)⟩, ⟨some 6, none, .mv (.t 29)⟩]) (.seq (.rg [⟨some 30, none, .mv (.t 6)⟩, ⟨some 31, none, .bin .neq .leaf (.t 30) (.k (.int .i64 0))⟩, ⟨some 32, none, .mv (.t 31)⟩, ⟨some 33, some (32, true), .fa 3 (.t 5)⟩, ⟨some 34, some (32, true), .ld 1 false (.t 33)⟩, ⟨some 35, some (32, true), .len 1 (.t 34)⟩, ⟨some 36, some (32, true), .bin .eql .leaf (.t 35) (.k (.int .i64 0))⟩, ⟨some 37, none, .pick (.t 32) (.t 36) (.k (.bool false))⟩, ⟨some 38, none, .mv (.t 37)⟩, ⟨some 39, some (38, true), .call 10 []⟩, ⟨some 40, none, .pick (.t 38) (.t 39) (.k (.bool false))⟩, ⟨some 4, none, .mv (.t 40)⟩]) .ret)) .skip)) (.seq (.rg [⟨some 42, none, .ld 4 true (.t 2)⟩, ⟨some 43, none, .call 23 [.t 42]⟩, ⟨some 41, none, .mv (.t 43)⟩, ⟨some 44, none, .ext 0 (.t 41)⟩, ⟨some 45, none, .ext 1 (.t 41)⟩, ⟨some 46, none, .ext 2 (.t 41)⟩, ⟨some 7, none, .mv (.t 44)⟩, ⟨some 8, none, .mv (.t 45)⟩, ⟨some 9, none, .mv (.t 46)⟩]) (.seq (.seq (.rg [⟨some 47, none, .mv (.t 9)⟩, ⟨some 48, none, .bin .eql .leaf (.t 47) (.k (.int .i64 0))⟩, ⟨some 49, none, .mv (.t 48)⟩, ⟨some 50, some (49, true), .mv (.t 7)⟩, ⟨some 51, some (49, true), .mv (.t 8)⟩, ⟨some 52, some (49, true), .bin .neq .leaf (.t 50) (.t 51)⟩, ⟨some 53, some (49, true), .mv (.t 52)⟩, ⟨some 54, some (53, false), .mv (.t 7)⟩, ⟨some 55, some (53, false), .bin .leq .leaf (.t 54) (.k (.int .i64 0))⟩, ⟨some 56, some (49, true), .pick (.t 53) (.k (.bool true)) (.t 55)⟩, ⟨some 57, none, .pick (.t 49) (.t 56) (.k (.bool false))⟩]) (.cond (.t 57) (.seq (.rg [⟨some 4, none, .mv (.k (.bool false))⟩]) .ret) .skip)) (.seq (.rg [⟨some 59, none, .ld 4 true (.t 2)⟩, ⟨some 60, none, .mv (.t 1)⟩, ⟨some 61, none, .call 22 [.t 59, .t 60]⟩, ⟨some 58, none, .mv (.t 61)⟩, ⟨some 62, none, .ext 0 (.t 58)⟩, ⟨some 63, none, .ext 1 (.t 58)⟩, ⟨some 10, none, .alloc [.int .i64 0, .int .u8 0, .int .u64 0, .nilsl] 39⟩, ⟨none, none, .st 4 (.t 10) (.t 62)⟩, ⟨some 11, none, .mv (.t 63)⟩]) (.seq (.seq (.rg [⟨some 64, none, .mv (.t 11)⟩, ⟨some 65, none, .bin .neq .leaf (.t 64) (.k (.int .i64 0))⟩]) (.cond (.t 65) (.seq (.rg [⟨some 66, none, .mv (.t 1)⟩, ⟨some 67, none, .bin .lss .leaf (.t 66) (.k (.int .i64 1))⟩, ⟨some 68, none, .mv (.t 67)⟩, ⟨some 69, some (68, false), .mv (.t 1)⟩, ⟨some 70, some (68, false), .bin .gtr .leaf (.t 69) (.k (.int .i64 3652059))⟩, ⟨some 71, none, .pick (.t 68) (.k (.bool true)) (.t 70)⟩, ⟨some 72, none, .mv (.t 71)⟩, ⟨some 73, some (72, true), .call 10 []⟩, ⟨some 74, none, .pick (.t 72) (.t 73) (.k (.bool false))⟩, ⟨some 4, none, .mv (.t 74)⟩]) .ret) .skip)) (.seq (.rg [⟨some 76, none, .ld 4 true (.t 10)⟩, ⟨some 77, none, .fa 0 (.t 2)⟩, ⟨some 78, none, .ld 1 false (.t 77)⟩, ⟨some 79, none, .call 22 [.t 76, .t 78]⟩, ⟨some 75, none, .mv (.t 79)⟩, ⟨some 80, none, .ext 0 (.t 75)⟩, ⟨some 81, none, .ext 1 (.t 75)⟩, ⟨some 12, none, .alloc [.int .i64 0, .int .u8 0, .int .u64 0, .nilsl] 39⟩, ⟨none, none, .st 4 (.t 12) (.t 80)⟩, ⟨some 13, none, .mv (.t 81)⟩]) (.seq (.rd [(⟨some 83, none, .buildS 0 4 [.int .i64 0, .int .u64 0, .int .u64 0, .int .i64 0] [] 34⟩, none), (⟨some 84, none, .fa 3 (.t 2)⟩, none), (⟨some 85, none, .ld 1 false (.t 84)⟩, none), (⟨some 87, none, .fa 3 (.t 10)⟩, none), (⟨some 88, none, .ld 1 false (.t 87)⟩, none), (⟨some 86, none, .app 22 34 4 32 [.int .i64 0, .int .u64 0, .int .u64 0, .int .i64 0] (.t 83) (.t 85)⟩, some [⟨some 88, none, .ld 1 false (.t 87)⟩]), (⟨some 89, none, .app 22 34 4 32 [.int .i64 0, .int .u64 0, .int .u64 0, .int .i64 0] (.t 86) (.t 88)⟩, some []), (⟨some 90, none, .call 11 [.t 89]⟩, some []), (⟨some 82, none, .mv (.t 90)⟩, none), (⟨some 91, none, .ext 0 (.t 82)⟩, none), (⟨some 92, none, .ext 1 (.t 82)⟩, none), (⟨some 14, none, .mv (.t 91)⟩, none), (⟨some 15, none, .mv (.t 92)⟩, none)]) (.seq (.rg [⟨some 93, none, .mv (.t 13)⟩, ⟨some 94, none, .bin .eql .leaf (.t 93) (.k (.int .i64 0))⟩, ⟨some 95, none, .mv (.t 94)⟩, ⟨some 96, some (95, true), .ld 4 true (.t 12)⟩, ⟨some 97, some (95, true), .ld 4 true (.t 2)⟩, ⟨some 98, some (95, true), .call 24 [.t 96, .t 97]⟩, ⟨some 99, none, .pick (.t 95) (.t 98) (.k (.bool false))⟩, ⟨some 100, none, .mv (.t 99)⟩, ⟨some 101, some (100, true), .mv (.t 15)⟩, ⟨some 102, some (100, true), .bin .eql .leaf (.t 101) (.k (.int .i64 0))⟩, ⟨some 103, none, .pick (.t 100) (.t 102) (.k (.bool false))⟩, ⟨some 104, none, .mv (.t 103)⟩, ⟨some 105, some (104, true), .mv (.t 14)⟩, ⟨some 106, some (104, true), .len 1 (.t 105)⟩, ⟨some 107, some (104, true), .bin .eql .leaf (.t 106) (.k (.int .i64 0))⟩, ⟨some 108, none, .pick (.t 104) (.t 107) (.k (.bool false))⟩, ⟨some 109, none, .mv (.t 108)⟩, ⟨some 110, some (109, true), .ld 4 true (.t 10)⟩, ⟨some 111, some (109, true), .call 17 [.t 110]⟩, ⟨some 112, some (109, true), .bin .eql .leaf (.t 111) (.k (.int .i64 0))⟩, ⟨some 113, none, .pick (.t 109) (.t 112) (.k (.bool false))⟩, ⟨some 114, none, .mv (.t 113)⟩, ⟨some 115, some (114, true), .fa 0 (.t 10)⟩, ⟨some 116, some (114, true), .ld 1 false (.t 115)⟩, ⟨some 117, some (114, true), .mv (.t 1)⟩, ⟨some 118, some (114, true), .bin .eql .leaf (.t 116) (.t 117)⟩, ⟨some 119, none, .pick (.t 114) (.t 118) (.k (.bool false))⟩, ⟨some 120, none, .mv (.t 119)⟩, ⟨some 121, some (120, true), .call 10 []⟩, ⟨some 122, none, .pick (.t 120) (.t 121) (.k (.bool false))⟩, ⟨some 4, none, .mv (.t 122)⟩]) .ret)))))))))⟩ := by kernel_rfl

theorem lns_max {l : List Ln} (h : l.length < 1000000) : (lns l).length ≤ maxLen ∧ (lns l).length * 32 ≤ 140737488355328 := by
  rw [lns_len]; simp [maxLen]; omega
set_option maxHeartbeats 1000000 in
theorem journalTidies (l : List Ln) (hR : ∀ x ∈ l, x.R) : Pure 3 [.sl (lns l)] (.bool true) := by
  intro S tk
  have hlen := lns_len l
  by_cases hl : (l.length : Int) > 60
  · refine ACalls.fgo c3 rfl fun hS => ?_
    repeat' first | with_reducible refine fzD_ite (fun q => ?_) (fun q => ?_) | ((try conv => whnf); first
      | refine bs_t (decide_eq_true (by omega)) ?_
      | refine bs_d (fun q => ?_) (fun q => ?_)
      | refine bs_n ?_
      | refine bs_i (fun q => ?_) (fun q => ?_)
      | refine ck (by first | rfl | simp) rfl (head) ?_
      | refine cq (head) ?_
      | refine eqk rfl ?_
      | refine ffin _ rfl rfl hS (Sub.refl _) rfl ⟨?_, rfl, rfl⟩)
    all_goals rfl
  have s0 := sameL l l (by omega) (by omega)
  rw [decide_eq_true rfl] at s0
  by_cases hb : BadL l
  · have t1 := TidyB (by omega) hR hb
    have t2 := rTidyB (by omega) hR hb
    have s1 := sameL [] [] (by simp) (by simp)
    rw [decide_eq_true rfl] at s1
    refine ACalls.fgo c3 rfl fun hS => ?_
    repeat' first | with_reducible refine fzD_ite (fun q => ?_) (fun q => ?_) | ((try conv => whnf); first
      | refine bs_f (decide_eq_false (by omega)) ?_
      | refine bs_t (decide_eq_true rfl) ?_
      | refine bs_d (fun q => ?_) (fun q => ?_)
      | refine bs_n ?_
      | refine bs_i (fun q => ?_) (fun q => ?_)
      | refine gk_app0 (src := lns l) rfl rfl (.inr rfl) rfl (ln4 _) (lns_max (by omega)) ?_
      | refine ckS rfl rfl t1 (.cons (Sub.rd rfl) .nil) ?_
      | refine ck (by first | rfl | simp) rfl (t2) ?_
      | refine cq (t2) ?_
      | refine ckS rfl rfl s1 (.cons (Sub.rd rfl) (.cons (Sub.refl _) .nil)) ?_
      | refine ckS rfl rfl s0 (.cons (Sub.rd rfl) (.cons (Sub.refl _) .nil)) ?_
      | refine ck (by first | rfl | simp) rfl (head) ?_
      | refine cq (head) ?_
      | refine eqk rfl ?_
      | refine ffin _ rfl rfl hS (Sub.refl _) rfl ⟨?_, rfl, rfl⟩)
    all_goals rfl
  · have t1 := TidyO (by omega) hR hb
    have t2 := rTidyO (by omega) hR hb
    have hz := tid_len (tidL_t hb) hb
    have s1 := sameL (tidL l) (tidL l) (by omega) (by omega)
    rw [decide_eq_true rfl] at s1
    refine ACalls.fgo c3 rfl fun hS => ?_
    repeat' first | with_reducible refine fzD_ite (fun q => ?_) (fun q => ?_) | ((try conv => whnf); first
      | refine bs_f (decide_eq_false (by omega)) ?_
      | refine bs_t (decide_eq_true rfl) ?_
      | refine bs_d (fun q => ?_) (fun q => ?_)
      | refine bs_n ?_
      | refine bs_i (fun q => ?_) (fun q => ?_)
      | refine gk_app0 (src := lns l) rfl rfl (.inr rfl) rfl (ln4 _) (lns_max (by omega)) ?_
      | refine ckS rfl rfl t1 (.cons (Sub.rd rfl) .nil) ?_
      | refine ck (by first | rfl | simp) rfl (t2) ?_
      | refine cq (t2) ?_
      | refine ck (by first | rfl | simp) rfl (s1) ?_
      | refine cq (s1) ?_
      | refine ckS rfl rfl s0 (.cons (Sub.rd rfl) (.cons (Sub.refl _) .nil)) ?_
      | refine ck (by first | rfl | simp) rfl (head) ?_
      | refine cq (head) ?_
      | refine eqk rfl ?_
      | refine ffin _ rfl rfl hS (Sub.refl _) rfl ⟨?_, rfl, rfl⟩)
    all_goals rfl
set_option maxHeartbeats 1000000 in
theorem journalTurns (e : Ent) (hR : e.R) (day : Int) (hdy : I64 day) : Pure 6 [e.d, .int .i64 day] (.bool true) := by
  intro S tk
  have hlen := lns_len e.L
  by_cases hl : (e.L.length : Int) > 100
  · refine ACalls.fgo c6 rfl fun hS => ?_
    repeat' first | with_reducible refine fzD_ite (fun q => ?_) (fun q => ?_) | ((try conv => whnf); first
      | refine bs_t (decide_eq_true (by omega)) ?_
      | refine bs_d (fun q => ?_) (fun q => ?_)
      | refine bs_n ?_
      | refine bs_i (fun q => ?_) (fun q => ?_)
      | refine ck (by first | rfl | simp) rfl (head) ?_
      | refine cq (head) ?_
      | refine eqk rfl ?_
      | refine ffin _ rfl rfl hS (Sub.refl _) rfl ⟨?_, rfl, rfl⟩)
    all_goals rfl
  have hc := Check e hR
  by_cases h0 : e.chk = 0
  rotate_left
  · have hr := Reverse e hR day
    rw [revS, revE, revN, if_neg h0, if_neg (fun h => h0 h.1)] at hr
    refine ACalls.fgo c6 rfl fun hS => ?_
    repeat' first | with_reducible refine fzD_ite (fun q => ?_) (fun q => ?_) | ((try conv => whnf); first
      | refine bs_f (decide_eq_false (by omega)) ?_
      | refine bs_t (decide_eq_true h0) ?_
      | refine bs_f (decide_eq_false h0) ?_
      | refine bs_t (decide_eq_true rfl) ?_
      | refine bs_d (fun q => ?_) (fun q => ?_)
      | refine bs_n ?_
      | refine bs_i (fun q => ?_) (fun q => ?_)
      | refine ck (by first | rfl | simp) rfl (hc) ?_
      | refine cq (hc) ?_
      | refine ck (by first | rfl | simp) rfl (hr) ?_
      | refine cq (hr) ?_
      | refine ck (by first | rfl | simp) rfl (head) ?_
      | refine cq (head) ?_
      | refine eqk rfl ?_
      | refine ffin _ rfl rfl hS (Sub.refl _) rfl ⟨?_, rfl, rfl⟩)
    all_goals rfl
  have hpos := chk_pos h0
  have ht := Totals e hR
  rw [totS, if_pos h0] at ht
  rw [h0] at hc
  have hr := Reverse e hR day
  obtain ⟨h1, h2, h3⟩ := Ent.chk_0 h0
  unfold Ent.hd at h1
  by_cases hd : 1 ≤ day ∧ day ≤ 3652059
  rotate_left
  · rw [revS, revE, revN, if_pos h0, if_neg hd, if_neg (fun h => hd h.2)] at hr
    by_cases hp : posS e.L < 9223372036854775808
    · rw [if_pos hp] at ht
      refine ACalls.fgo c6 rfl fun hS => ?_
      repeat' first | with_reducible refine fzD_ite (fun q => ?_) (fun q => ?_) | ((try conv => whnf); first
        | refine bs_f (decide_eq_false (by omega)) ?_
        | refine bs_d (fun q => ?_) (fun q => ?_)
        | refine bs_n ?_
        | refine bs_i (fun q => ?_) (fun q => ?_)
        | refine ck (by first | rfl | simp) rfl (hc) ?_
        | refine cq (hc) ?_
        | refine ck (by first | rfl | simp) rfl (ht) ?_
        | refine cq (ht) ?_
        | refine ck (by first | rfl | simp) rfl (hr) ?_
        | refine cq (hr) ?_
        | refine ck (by first | rfl | simp) rfl (head) ?_
        | refine cq (head) ?_
        | refine eqk rfl ?_
        | refine ffin _ rfl rfl hS (Sub.refl _) rfl ⟨?_, rfl, rfl⟩)
      all_goals first | rfl | (exfalso; omega)
    · rw [if_neg hp] at ht
      refine ACalls.fgo c6 rfl fun hS => ?_
      repeat' first | with_reducible refine fzD_ite (fun q => ?_) (fun q => ?_) | ((try conv => whnf); first
        | refine bs_f (decide_eq_false (by omega)) ?_
        | refine bs_d (fun q => ?_) (fun q => ?_)
        | refine bs_n ?_
        | refine bs_i (fun q => ?_) (fun q => ?_)
        | refine ck (by first | rfl | simp) rfl (hc) ?_
        | refine cq (hc) ?_
        | refine ck (by first | rfl | simp) rfl (ht) ?_
        | refine cq (ht) ?_
        | refine ck (by first | rfl | simp) rfl (hr) ?_
        | refine cq (hr) ?_
        | refine ck (by first | rfl | simp) rfl (head) ?_
        | refine cq (head) ?_
        | refine eqk rfl ?_
        | refine ffin _ rfl rfl hS (Sub.refl _) rfl ⟨?_, rfl, rfl⟩)
      all_goals first | rfl | (exfalso; omega)
  have hback := Reverse (revE e day) (rev_R hR h0 hd) e.day
  rw [revS, rev_rev h0 hd, revN, if_pos (rev_chk h0 hd), if_pos ⟨h1.1, h1.2.1⟩] at hback
  have hck2 := Check (revE e day) (rev_R hR h0 hd)
  rw [rev_chk h0 hd] at hck2
  have hsm := Same e e (by omega) (by omega)
  rw [Ent.eqB_self] at hsm
  have hbad := two_ok h0
  have htd := TidyO (l := e.L ++ e.L.map neg) (by simp; omega) (fun x hx => by
    rcases List.mem_append.1 hx with hx | hx
    · exact hR.L x hx
    · exact (rev_R hR h0 hd).L x (by rw [rev_eq h0 hd]; exact hx)) hbad
  rw [two_tid (tidL_t hbad)] at htd
  rw [revS, revN, if_pos h0, if_pos hd] at hr
  rw [rev_eq h0 hd] at hr hback hck2
  have hln2 : (lns (e.L.map neg)).length = e.L.length := by rw [lns_len, List.length_map]
  have happ : lns e.L ++ lns (e.L.map neg) = lns (e.L ++ e.L.map neg) := by simp [lns]
  by_cases hp : posS e.L < 9223372036854775808
  · rw [if_pos hp] at ht
    refine ACalls.fgo c6 rfl fun hS => ?_
    repeat' first | with_reducible refine fzD_ite (fun q => ?_) (fun q => ?_) | ((try conv => whnf); first
      | refine bs_f (decide_eq_false (show ¬ ((lns e.L).length : Int) > 100 by omega)) ?_
      | refine bs_t (decide_eq_true rfl) ?_
      | refine bs_d (fun q => ?_) (fun q => ?_)
      | refine bs_n ?_
      | refine bs_i (fun q => ?_) (fun q => ?_)
      | refine ck (by first | rfl | simp) rfl (hc) ?_
      | refine cq (hc) ?_
      | refine ck (by first | rfl | simp) rfl (ht) ?_
      | refine cq (ht) ?_
      | refine ck (by first | rfl | simp) rfl (hr) ?_
      | refine cq (hr) ?_
      | refine ck (by first | rfl | simp) rfl (hback) ?_
      | refine cq (hback) ?_
      | refine ck (by first | rfl | simp) rfl (hck2) ?_
      | refine cq (hck2) ?_
      | refine ck (by first | rfl | simp) rfl (hsm) ?_
      | refine cq (hsm) ?_
      | refine ck (by first | rfl | simp) rfl (head) ?_
      | refine cq (head) ?_
      | refine gk_app0 (src := lns e.L) rfl rfl (.inr rfl) rfl (ln4 _) (lns_max (by omega)) ?_
      | (refine gk_app (t := 0) (src := lns (e.L.map neg)) rfl rfl (by rfl) (by rfl) (by rfl) (ln4 _) (by rw [hln2, hlen]; simp [maxLen]; omega) ?_; rw [happ])
      | refine ckS rfl rfl htd (.cons (Sub.rd rfl) .nil) ?_
      | refine eqk rfl ?_
      | refine ffin _ rfl rfl hS (Sub.refl _) rfl ⟨?_, rfl, rfl⟩)
    all_goals first | rfl | (exfalso; omega)
  · rw [if_neg hp] at ht
    refine ACalls.fgo c6 rfl fun hS => ?_
    repeat' first | with_reducible refine fzD_ite (fun q => ?_) (fun q => ?_) | ((try conv => whnf); first
      | refine bs_f (decide_eq_false (show ¬ ((lns e.L).length : Int) > 100 by omega)) ?_
      | refine bs_t (decide_eq_true rfl) ?_
      | refine bs_d (fun q => ?_) (fun q => ?_)
      | refine bs_n ?_
      | refine bs_i (fun q => ?_) (fun q => ?_)
      | refine ck (by first | rfl | simp) rfl (hc) ?_
      | refine cq (hc) ?_
      | refine ck (by first | rfl | simp) rfl (ht) ?_
      | refine cq (ht) ?_
      | refine ck (by first | rfl | simp) rfl (hr) ?_
      | refine cq (hr) ?_
      | refine ck (by first | rfl | simp) rfl (hback) ?_
      | refine cq (hback) ?_
      | refine ck (by first | rfl | simp) rfl (hck2) ?_
      | refine cq (hck2) ?_
      | refine ck (by first | rfl | simp) rfl (hsm) ?_
      | refine cq (hsm) ?_
      | refine ck (by first | rfl | simp) rfl (head) ?_
      | refine cq (head) ?_
      | refine gk_app0 (src := lns e.L) rfl rfl (.inr rfl) rfl (ln4 _) (lns_max (by omega)) ?_
      | (refine gk_app (t := 0) (src := lns (e.L.map neg)) rfl rfl (by rfl) (by rfl) (by rfl) (ln4 _) (by rw [hln2, hlen]; simp [maxLen]; omega) ?_; rw [happ])
      | refine ckS rfl rfl htd (.cons (Sub.rd rfl) .nil) ?_
      | refine eqk rfl ?_
      | refine ffin _ rfl rfl hS (Sub.refl _) rfl ⟨?_, rfl, rfl⟩)
    all_goals rfl
end Go.KL.Ytogpeefldehnkaa.J
