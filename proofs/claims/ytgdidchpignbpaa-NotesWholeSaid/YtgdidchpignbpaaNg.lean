/- NotesWhole -/
import Derived.Test.YtgdidchpignbpaaNe
import Derived.Test.YtgdidchpignbpaaNf
set_option linter.unusedVariables false
set_option linter.unusedSimpArgs false
set_option linter.unusedSectionVars false
set_option maxRecDepth 4000
namespace Go.KL.Ytgdidchpignbpaa
open Go Go.KL Go.RowKit Go.Proofs

theorem c5 : cFun E0.P 5 = some ⟨122, [(4, none)], .seq (.rg [⟨some 4, none, .mv (.k (.bool false))⟩]) (.seq (.seq (.rg [⟨some 13, none, .mv (.t 0)⟩, ⟨some 14, none, .len 1 (.t 13)⟩, ⟨some 15, none, .bin .gtr .leaf (.t 14) (.k (.int .i64 40))⟩]) (.cond (.t 15) (.seq (.rg [⟨some 16, none, .call 15 []⟩, ⟨some 4, none, .mv (.t 16)⟩]) .ret) .skip)) (.seq (.rg [⟨some 18, none, .mv (.t 0)⟩, ⟨some 19, none, .mv (.t 1)⟩, ⟨some 20, none, .call 23 [.t 18, .t 19]⟩, ⟨some 17, none, .mv (.t 20)⟩, ⟨some 21, none, .ext 0 (.t 17)⟩, ⟨some 22, none, .ext 1 (.t 17)⟩, ⟨some 5, none, .mv (.t 21)⟩, ⟨some 6, none, .mv (.t 22)⟩]) (.seq (.seq (.rg [⟨some 23, none, .mv (.t 6)⟩, ⟨some 24, none, .bin .neq .leaf (.t 23) (.k (.int .i64 0))⟩]) (.cond (.t 24) (.seq (.rg [⟨some 25, none, .mv (.t 5)⟩, ⟨some 26, none, .len 1 (.t 25)⟩, ⟨some 27, none, .bin .eql .leaf (.t 26) (.k (.int .i64 0))⟩, ⟨some 28, none, .mv (.t 27)⟩, ⟨some 29, some (28, true), .call 15 []⟩, ⟨some 30, none, .pick (.t 28) (.t 29) (.k (.bool false))⟩, ⟨some 4, none, .mv (.t 30)⟩]) .ret) .skip)) (.seq (.seq (.rg [⟨some 31, none, .mv (.t 5)⟩, ⟨some 32, none, .len 1 (.t 31)⟩, ⟨some 33, none, .mv (.t 0)⟩, ⟨some 34, none, .len 1 (.t 33)⟩, ⟨some 35, none, .bin .neq .leaf (.t 32) (.t 34)⟩]) (.cond (.t 35) (.seq (.rg [⟨some 4, none, .mv (.k (.bool false))⟩]) .ret) .skip)) (.seq (.rg [⟨some 7, none, .mv (.k (.int .i64 0))⟩]) (.seq (.seq (.rg [⟨some 8, none, .mv (.k (.int .i64 0))⟩]) (.block 0 (.loop (.seq (.seq (.rg [⟨some 36, none, .mv (.t 8)⟩, ⟨some 37, none, .mv (.t 0)⟩, ⟨some 38, none, .len 1 (.t 37)⟩, ⟨some 39, none, .bin .lss .leaf (.t 36) (.t 38)⟩]) (.cond (.t 39) .skip (.exit 0))) (.seq (.block 1 (.seq (.seq (.rg [⟨some 42, none, .mv (.t 5)⟩, ⟨some 43, none, .mv (.t 8)⟩, ⟨some 44, none, .ia 1 (.t 42) (.t 43)⟩, ⟨some 45, none, .ld 1 false (.t 44)⟩, ⟨some 46, none, .bin .lss .leaf (.t 45) (.k (.int .i64 0))⟩, ⟨some 47, none, .mv (.t 46)⟩, ⟨some 48, some (47, false), .mv (.t 5)⟩, ⟨some 49, some (47, false), .mv (.t 8)⟩, ⟨some 50, some (47, false), .ia 1 (.t 48) (.t 49)⟩, ⟨some 51, some (47, false), .ld 1 false (.t 50)⟩, ⟨some 52, some (47, false), .mv (.t 1)⟩, ⟨some 53, some (47, false), .mv (.t 7)⟩, ⟨some 54, some (47, false), .bin .sub .leaf (.t 52) (.t 53)⟩, ⟨some 55, some (47, false), .bin .gtr .leaf (.t 51) (.t 54)⟩, ⟨some 56, none, .pick (.t 47) (.k (.bool true)) (.t 55)⟩]) (.cond (.t 56) (.seq (.rg [⟨some 4, none, .mv (.k (.bool false))⟩]) .ret) .skip)) (.seq (.rg [⟨some 57, none, .mv (.t 7)⟩, ⟨some 58, none, .mv (.t 5)⟩, ⟨some 59, none, .mv (.t 8)⟩, ⟨some 60, none, .ia 1 (.t 58) (.t 59)⟩, ⟨some 61, none, .ld 1 false (.t 60)⟩, ⟨some 62, none, .bin .add .leaf (.t 57) (.t 61)⟩, ⟨some 7, none, .mv (.t 62)⟩]) (.seq (.seq (.rg [⟨some 63, none, .mv (.t 5)⟩, ⟨some 64, none, .mv (.t 8)⟩, ⟨some 65, none, .ia 1 (.t 63) (.t 64)⟩, ⟨some 66, none, .ld 1 false (.t 65)⟩, ⟨some 67, none, .bin .eql .leaf (.t 66) (.k (.int .i64 0))⟩]) (.cond (.t 67) (.exit 1) .skip)) (.seq (.seq (.rd [(⟨some 69, none, .mv (.t 0)⟩, none), (⟨some 70, none, .mv (.t 8)⟩, none), (⟨some 71, none, .ia 11 (.t 69) (.t 70)⟩, none), (⟨some 72, none, .ld 11 true (.t 71)⟩, none), (⟨some 73, none, .mv (.t 5)⟩, none), (⟨some 74, none, .mv (.t 8)⟩, none), (⟨some 75, none, .ia 1 (.t 73) (.t 74)⟩, none), (⟨some 76, none, .ld 1 false (.t 75)⟩, none), (⟨some 77, none, .call 26 [.t 72, .t 76]⟩, none), (⟨some 68, none, .mv (.t 77)⟩, none), (⟨some 78, none, .ext 0 (.t 68)⟩, none), (⟨some 79, none, .ext 1 (.t 68)⟩, none), (⟨some 80, none, .ext 2 (.t 68)⟩, none), (⟨some 9, none, .alloc [.int .u64 0, .int .u64 0, .int .u64 0, .int .i64 0, .int .i64 0, .int .i64 0, .int .i64 0, .int .i64 0, .int .i64 0, .int .i64 0, .int .i64 0] 26⟩, some [⟨some 72, none, .ld 11 true (.t 71)⟩, ⟨some 76, none, .ld 1 false (.t 75)⟩, ⟨some 77, none, .call 26 [.t 72, .t 76]⟩]), (⟨none, none, .st 11 (.t 9) (.t 78)⟩, some []), (⟨some 10, none, .mv (.t 79)⟩, none), (⟨some 11, none, .mv (.t 80)⟩, none)]) (.seq (.rg [⟨some 81, none, .mv (.t 11)⟩, ⟨some 82, none, .bin .neq .leaf (.t 81) (.k (.int .i64 0))⟩]) (.cond (.t 82) (.seq (.rg [⟨some 4, none, .mv (.k (.bool false))⟩]) .ret) .skip))) (.seq (.rg [⟨some 12, none, .mv (.k (.int .i64 0))⟩]) (.block 2 (.loop (.seq (.seq (.rg [⟨some 83, none, .mv (.t 12)⟩, ⟨some 84, none, .mv (.t 0)⟩, ⟨some 85, none, .len 1 (.t 84)⟩, ⟨some 86, none, .bin .lss .leaf (.t 83) (.t 85)⟩]) (.cond (.t 86) .skip (.exit 2))) (.seq (.block 3 (.seq (.rd [(⟨some 89, none, .mv (.t 12)⟩, none), (⟨some 90, none, .mv (.t 8)⟩, none), (⟨some 91, none, .bin .neq .leaf (.t 89) (.t 90)⟩, none), (⟨some 92, none, .mv (.t 91)⟩, none), (⟨some 93, some (92, true), .mv (.t 0)⟩, none), (⟨some 94, some (92, true), .mv (.t 12)⟩, none), (⟨some 95, some (92, true), .mv (.t 8)⟩, none), (⟨some 96, some (92, true), .call 27 [.t 93, .t 94, .t 95]⟩, some []), (⟨some 97, none, .pick (.t 92) (.t 96) (.k (.bool false))⟩, none), (⟨some 98, none, .mv (.t 97)⟩, none), (⟨some 99, some (98, true), .mv (.t 5)⟩, none), (⟨some 100, some (98, true), .mv (.t 12)⟩, none), (⟨some 101, some (98, true), .ia 1 (.t 99) (.t 100)⟩, none), (⟨some 102, some (98, true), .ld 1 false (.t 101)⟩, none), (⟨some 103, some (98, true), .mv (.t 0)⟩, none), (⟨some 104, some (98, true), .mv (.t 12)⟩, none), (⟨some 105, some (98, true), .ia 11 (.t 103) (.t 104)⟩, none), (⟨some 106, some (98, true), .ld 11 true (.t 105)⟩, none), (⟨some 107, some (98, true), .call 28 [.t 106]⟩, none), (⟨some 108, some (98, true), .mv (.t 0)⟩, none), (⟨some 109, some (98, true), .mv (.t 12)⟩, none), (⟨some 110, some (98, true), .ia 11 (.t 108) (.t 109)⟩, none), (⟨some 111, some (98, true), .fa 9 (.t 110)⟩, none), (⟨some 112, some (98, true), .ld 1 false (.t 111)⟩, none), (⟨some 113, some (98, true), .bin .add .leaf (.t 107) (.t 112)⟩, none), (⟨some 114, some (98, true), .bin .neq .leaf (.t 102) (.t 113)⟩, none), (⟨some 115, none, .pick (.t 98) (.t 114) (.k (.bool false))⟩, none)]) (.cond (.t 115) (.seq (.rg [⟨some 4, none, .mv (.k (.bool false))⟩]) .ret) .skip))) (.rg [⟨some 87, none, .mv (.t 12)⟩, ⟨some 88, none, .bin .add .leaf (.t 87) (.k (.int .i64 1))⟩, ⟨some 12, none, .mv (.t 88)⟩]))))))))))) (.rg [⟨some 40, none, .mv (.t 8)⟩, ⟨some 41, none, .bin .add .leaf (.t 40) (.k (.int .i64 1))⟩, ⟨some 8, none, .mv (.t 41)⟩])))))) (.seq (.rg [⟨some 116, none, .mv (.t 7)⟩, ⟨some 117, none, .mv (.t 1)⟩, ⟨some 118, none, .bin .eql .leaf (.t 116) (.t 117)⟩, ⟨some 119, none, .mv (.t 118)⟩, ⟨some 120, some (119, true), .call 15 []⟩, ⟨some 121, none, .pick (.t 119) (.t 120) (.k (.bool false))⟩, ⟨some 4, none, .mv (.t 121)⟩]) .ret)))))))⟩ := by kernel_rfl

theorem ahd_later {l : List Iv} (hok : ∀ x ∈ l, x.ok) {i k : Nat} (hi : i < l.length) (hk : k < l.length) (h : later l k i) : ahd l k + l[k]!.room ≤ ahd l i := by
  obtain ⟨o, ho⟩ := ord_ex l
  have hio : i ∈ o := ho.perm.mem_iff.2 (List.mem_range.2 hi)
  have hko : k ∈ o := ho.perm.mem_iff.2 (List.mem_range.2 hk)
  obtain ⟨p, q, hpq⟩ := List.append_of_mem hio
  have hst := ho.st
  rw [hpq, List.pairwise_append, List.pairwise_cons] at hst
  have hkp : k ∈ p := by
    rw [hpq, List.mem_append, List.mem_cons] at hko
    rcases hko with h1 | rfl | h1
    · exact h1
    · exact absurd h (later_irrefl l _)
    · exact absurd (later_trans h (hst.2.1.1 k h1)) (later_irrefl l k)
  obtain ⟨p1, p2, hp⟩ := List.append_of_mem hkp
  have a1 := ord_ahd ho hpq
  have a2 := ord_ahd ho (show o = p1 ++ k :: (p2 ++ i :: q) by rw [hpq, hp]; simp)
  have hnn : 0 ≤ rooms l p2 := rooms_nn hok fun m hm => List.mem_range.1 (ho.perm.mem_iff.1 (by rw [hpq, hp]; simp [hm]))
  rw [← a1, ← a2, hp]
  simp only [rooms, List.map_append, List.map_cons, List.sum_append, List.sum_cons] at hnn ⊢
  omega
theorem out_full {l : List Iv} (hok : ∀ x ∈ l, x.ok) {n : Int} {i k : Nat} (hi : i < l.length) (hk : k < l.length) (h : later l k i) (hp : 0 < outI l n i) : outI l n k = l[k]!.room := by
  have h1 := ahd_later hok hi hk h
  have h2 := room_bd (hok _ (mem_at hk))
  unfold outI at *
  omega
theorem outs_at (l : List Iv) (n : Int) {i : Nat} (hi : i < l.length) : (outs l n)[i]! = outI l n i := by
  rw [getElem!_pos _ i (by rw [outs_len]; exact hi)]
  simp [outs]
set_option maxHeartbeats 4000000 in
theorem notesWhole (l : List Iv) (hx : ∀ x ∈ l, x.R) (n : Int) (hn : I64 n) : Pure 5 [.sl (ivs l), .int .i64 n] (.bool true) := by
  intro S tk
  have hlen := ivs_len l
  by_cases hbig : 40 < l.length
  · refine ACalls.fgo c5 rfl fun hS => ?_
    repeat' first | with_reducible refine fzD_ite (fun q => ?_) (fun q => ?_) | ((try conv => whnf); first
      | refine bs_t (decide_eq_true (by rw [hlen]; omega)) ?_
      | refine bs_d (fun q => ?_) (fun q => ?_)
      | refine bs_n ?_
      | refine bs_i (fun q => ?_) (fun q => ?_)
      | refine ck (by first | rfl | simp) rfl (head) ?_
      | refine cq (head) ?_
      | refine eqk rfl ?_
      | refine ffin _ rfl rfl hS (Sub.refl _) rfl ⟨?_, rfl, rfl⟩)
    all_goals rfl
  have h1 := Spread l (by omega) hx n hn
  rw [spreadD] at h1
  by_cases c1 : 1 ≤ n ∧ ∀ x ∈ l, x.ok
  rotate_left
  · rw [if_neg c1] at h1
    refine ACalls.fgo c5 rfl fun hS => ?_
    repeat' first | with_reducible refine fzD_ite (fun q => ?_) (fun q => ?_) | ((try conv => whnf); first
      | refine bs_f (decide_eq_false (by rw [hlen]; omega)) ?_
      | refine bs_d (fun q => ?_) (fun q => ?_)
      | refine bs_n ?_
      | refine bs_i (fun q => ?_) (fun q => ?_)
      | refine ck (by first | rfl | simp) rfl (h1) ?_
      | refine cq (h1) ?_
      | refine ck (by first | rfl | simp) rfl (head) ?_
      | refine cq (head) ?_
      | refine eqk rfl ?_
      | refine ffin _ rfl rfl hS (Sub.refl _) rfl ⟨?_, rfl, rfl⟩)
    all_goals rfl
  rw [if_pos c1] at h1
  by_cases c2 : total l < n
  · rw [if_pos c2] at h1
    refine ACalls.fgo c5 rfl fun hS => ?_
    repeat' first | with_reducible refine fzD_ite (fun q => ?_) (fun q => ?_) | ((try conv => whnf); first
      | refine bs_f (decide_eq_false (by rw [hlen]; omega)) ?_
      | refine bs_d (fun q => ?_) (fun q => ?_)
      | refine bs_n ?_
      | refine bs_i (fun q => ?_) (fun q => ?_)
      | refine ck (by first | rfl | simp) rfl (h1) ?_
      | refine cq (h1) ?_
      | refine ck (by first | rfl | simp) rfl (head) ?_
      | refine cq (head) ?_
      | refine eqk rfl ?_
      | refine ffin _ rfl rfl hS (Sub.refl _) rfl ⟨?_, rfl, rfl⟩)
    all_goals rfl
  rw [if_neg c2] at h1
  obtain ⟨hn1, hok⟩ := c1
  have hol := outs_len l n
  have hoi := i64s_len (outs l n)
  have hsum := outs_sum hok (n := n) (by omega)
  have hnn := outs_nn hok (n := n)
  refine ACalls.withSc fun hsc => ?_
  have hscl : scLL S.length tk.length (ivs l) = true := by simp only [scL, D.sc, Bool.and_true] at hsc; exact hsc
  refine ACalls.fgo c5 rfl fun hS => ?_
  repeat' first | with_reducible refine fzD_ite (fun q => ?_) (fun q => ?_) | ((try conv => whnf); first
    | refine bs_f (decide_eq_false (show ¬ ((ivs l).length : Int) > 40 by rw [hlen]; omega)) ?_
    | refine bs_t (decide_eq_true (show ((i64s (outs l n)).length : Int) = ((ivs l).length : Int) by rw [hlen, hoi, hol])) ?_
    | refine bs_d (fun q => ?_) (fun q => ?_)
    | refine bs_n ?_
    | refine bs_i (fun q => ?_) (fun q => ?_)
    | refine ck (by first | rfl | simp) rfl (h1) ?_
    | refine cq (h1) ?_
    | refine eqk rfl ?_
    | refine ffin _ rfl rfl hS (Sub.refl _) rfl ⟨?_, rfl, rfl⟩)
  conv => whnf
  refine floop (α := Nat) rfl rfl hS (fun i => i ≤ l.length) (fun i => l.length - i) (fun i => [(8, .d (.int .i64 i)), (7, .d (.int .i64 ((outs l n).take i).sum)), (5, .d (.sl (i64s (outs l n)))), (1, .d (.int .i64 n)), (0, .d (.sl (ivs l)))]) (fun _ => []) (fun _ => []) 0 (Nat.zero_le _) (fstep_sub ⟨Sub.refl _, Sub.refl _, Sub.refl _, Sub.refl _, Sub.refl _, trivial⟩) ?_
  intro i hi
  by_cases hlt : i < l.length
  · have hat := outs_at l n hlt
    have hs0 := sum_take_le (c := outs l n) i hnn
    have hs1 := sum_take_le (c := outs l n) (i + 1) hnn
    have hs2 : ((outs l n).take (i + 1)).sum = ((outs l n).take i).sum + outI l n i := by rw [outs_take l n hlt]; simp
    have hon := outI_nn hok (n := n) hlt
    have hwa : IntKind.wrap .i64 (((outs l n).take i).sum + (outs l n)[i]!) = ((outs l n).take (i + 1)).sum := by rw [hat, ← hs2]; exact wi64_id (by unfold I64 at *; omega)
    have hws : IntKind.wrap .i64 (n - ((outs l n).take i).sum) = n - ((outs l n).take i).sum := wi64_id (by unfold I64 at *; omega)
    have hil : i < (outs l n).length := by omega
    have B1 : ((i : Nat) : Int) < ((ivs l).length : Int) := by rw [hlen]; omega
    have B2 : ¬ (outs l n)[i]! < 0 := by omega
    have B3 : ¬ (outs l n)[i]! > IntKind.wrap .i64 (n - ((outs l n).take i).sum) := by rw [hws]; omega
    by_cases hz : outI l n i = 0
    · have B4 : (outs l n)[i]! = 0 := by omega
      repeat' first | with_reducible refine fzD_ite (fun q => ?_) (fun q => ?_) | ((try conv => whnf); first
        | refine bs_t (decide_eq_true B1) ?_
        | refine bs_f (decide_eq_false B2) ?_
        | refine bs_f (decide_eq_false B3) ?_
        | refine bs_t (decide_eq_true B4) ?_
        | refine bs_d (fun q => ?_) (fun q => ?_)
        | refine bs_n ?_
        | refine bs_i (fun q => ?_) (fun q => ?_)
        | refine pK_i (iaD_i (i := i) rfl hil) ?_
        | refine eqk rfl ?_
        | refine ffin _ rfl rfl hS (Sub.refl _) rfl ⟨?_, rfl, rfl⟩)
      conv => whnf
      exact fnext (α := Nat) (i + 1) (by omega) (by omega) (fstep_sub ⟨Sub.int (by first | rfl | omega | (refine Int.sub_eq_zero.mp ?_; simp (disch := ((try unfold I64); omega)) only [wi64_id, td]; omega)), Sub.int hwa, Sub.refl _, Sub.refl _, Sub.refl _, trivial⟩)
    · have B4 : ¬ (outs l n)[i]! = 0 := by omega
      have hcr := Credit l[i]! (hx _ (mem_at hlt)) ((outs l n)[i]!) (by
        have := room_bd (hok _ (mem_at hlt))
        have hle : outI l n i ≤ l[i]!.room := by unfold outI; omega
        rw [hat]; unfold I64; omega)
      have hcok : ∃ now over, l[i]!.credit (outs l n)[i]! = .ok (now, over) := by
        have hle : outI l n i ≤ l[i]!.room := by unfold outI; omega
        unfold Iv.room at hle
        rw [hat, Iv.credit, if_pos ⟨hok _ (mem_at hlt), by omega⟩, if_pos hle]
        split <;> exact ⟨_, _, rfl⟩
      obtain ⟨now, over, hc⟩ := hcok
      rw [hc, did2] at hcr
      repeat' first | with_reducible refine fzD_ite (fun q => ?_) (fun q => ?_) | ((try conv => whnf); first
        | refine bs_t (decide_eq_true B1) ?_
        | refine bs_f (decide_eq_false B2) ?_
        | refine bs_f (decide_eq_false B3) ?_
        | refine bs_f (decide_eq_false B4) ?_
        | refine bs_d (fun q => ?_) (fun q => ?_)
        | refine bs_n ?_
        | refine bs_i (fun q => ?_) (fun q => ?_)
        | refine pK_i (iaD_i (i := i) rfl hil) ?_
        | refine pK_i (iaD_iv (i := i) rfl hlt) ?_
        | refine ck (by first | rfl | simp) rfl (hcr) ?_
        | refine cq (hcr) ?_
        | refine eqk rfl ?_
        | refine ffin _ rfl rfl hS (Sub.refl _) rfl ⟨?_, rfl, rfl⟩)
      conv => whnf
      refine floop (α := Nat) rfl rfl hS (fun k => k ≤ l.length) (fun k => l.length - k) (fun k => [(12, .d (.int .i64 k)), (8, .d (.int .i64 i)), (7, .d (.int .i64 ((outs l n).take (i + 1)).sum)), (5, .d (.sl (i64s (outs l n)))), (1, .d (.int .i64 n)), (0, .d (.sl (ivs l)))]) (fun _ => [.arr now.cs]) (fun _ => []) 0 (Nat.zero_le _) (fstep_sub ⟨Sub.refl _, Sub.refl _, Sub.int hwa, Sub.refl _, Sub.refl _, Sub.refl _, trivial⟩) ?_
      intro k hk
      by_cases hkl : k < l.length
      · have hlt2 := laterC l k i hkl hlt
        have B5 : ((k : Nat) : Int) < ((ivs l).length : Int) := by rw [hlen]; omega
        by_cases hki : k = i
        · have B6 : ((k : Nat) : Int) = ((i : Nat) : Int) := by omega
          repeat' first | with_reducible refine fzD_ite (fun q => ?_) (fun q => ?_) | ((try conv => whnf); first
            | refine bs_t (decide_eq_true B5) ?_
            | refine bs_t (decide_eq_true B6) ?_
            | refine bs_d (fun q => ?_) (fun q => ?_)
            | refine bs_n ?_
            | refine bs_i (fun q => ?_) (fun q => ?_)
            | refine eqk rfl ?_
            | refine ffin _ rfl rfl hS (Sub.refl _) rfl ⟨?_, rfl, rfl⟩)
          conv => whnf
          exact fnext (α := Nat) (k + 1) (by omega) (by omega) (fstep_sub ⟨Sub.int (by first | rfl | omega | (refine Int.sub_eq_zero.mp ?_; simp (disch := ((try unfold I64); omega)) only [wi64_id, td]; omega)), Sub.refl _, Sub.refl _, Sub.refl _, Sub.refl _, Sub.refl _, trivial⟩)
        · have B6 : ¬ ((k : Nat) : Int) = ((i : Nat) : Int) := by omega
          by_cases hla : later l k i
          · rw [decide_eq_true hla] at hlt2
            have hop := Open l[k]! (hx _ (mem_at hkl))
            have hr := room_bd (hok _ (mem_at hkl))
            have hw : IntKind.wrap .i64 (l[k]!.op + l[k]!.pd) = l[k]!.room := wi64_id (by unfold Iv.room at hr; unfold I64; omega)
            have B7 : (outs l n)[k]! = IntKind.wrap .i64 (l[k]!.op + l[k]!.pd) := by rw [hw, outs_at l n hkl]; exact out_full hok hlt hkl hla (by omega)
            repeat' first | with_reducible refine fzD_ite (fun q => ?_) (fun q => ?_) | ((try conv => whnf); first
              | refine bs_t (decide_eq_true B5) ?_
              | refine bs_f (decide_eq_false B6) ?_
              | refine bs_t (decide_eq_true B7) ?_
              | refine bs_d (fun q => ?_) (fun q => ?_)
              | refine bs_n ?_
              | refine bs_i (fun q => ?_) (fun q => ?_)
              | refine ck (by first | rfl | simp) rfl (hlt2) ?_
              | refine cq (hlt2) ?_
              | refine pK_i (iaD_i (i := k) rfl (by omega)) ?_
              | refine pK_i (iaD_iv (i := k) rfl hkl) ?_
              | refine ck (by first | rfl | simp) rfl (hop) ?_
              | refine cq (hop) ?_
              | refine eqk rfl ?_
              | refine ffin _ rfl rfl hS (Sub.refl _) rfl ⟨?_, rfl, rfl⟩)
            conv => whnf
            exact fnext (α := Nat) (k + 1) (by omega) (by omega) (fstep_sub ⟨Sub.int (by first | rfl | omega | (refine Int.sub_eq_zero.mp ?_; simp (disch := ((try unfold I64); omega)) only [wi64_id, td]; omega)), Sub.refl _, Sub.refl _, Sub.refl _, Sub.refl _, Sub.refl _, trivial⟩)
          · rw [decide_eq_false hla] at hlt2
            repeat' first | with_reducible refine fzD_ite (fun q => ?_) (fun q => ?_) | ((try conv => whnf); first
              | refine bs_t (decide_eq_true B5) ?_
              | refine bs_f (decide_eq_false B6) ?_
              | refine bs_d (fun q => ?_) (fun q => ?_)
              | refine bs_n ?_
              | refine bs_i (fun q => ?_) (fun q => ?_)
              | refine ck (by first | rfl | simp) rfl (hlt2) ?_
              | refine cq (hlt2) ?_
              | refine eqk rfl ?_
              | refine ffin _ rfl rfl hS (Sub.refl _) rfl ⟨?_, rfl, rfl⟩)
            conv => whnf
            exact fnext (α := Nat) (k + 1) (by omega) (by omega) (fstep_sub ⟨Sub.int (by first | rfl | omega | (refine Int.sub_eq_zero.mp ?_; simp (disch := ((try unfold I64); omega)) only [wi64_id, td]; omega)), Sub.refl _, Sub.refl _, Sub.refl _, Sub.refl _, Sub.refl _, trivial⟩)
      · have B5 : ¬ ((k : Nat) : Int) < ((ivs l).length : Int) := by rw [hlen]; omega
        repeat' first | with_reducible refine fzD_ite (fun q => ?_) (fun q => ?_) | ((try conv => whnf); first
          | refine bs_f (decide_eq_false B5) ?_
          | refine bs_d (fun q => ?_) (fun q => ?_)
          | refine bs_n ?_
          | refine bs_i (fun q => ?_) (fun q => ?_)
          | refine eqk rfl ?_
          | refine ffin _ rfl rfl hS (Sub.refl _) rfl ⟨?_, rfl, rfl⟩)
        conv => whnf
        exact fnext (α := Nat) (i + 1) (by omega) (by omega) (fstep_drop (J' := []) (Jx := [_]) (TK' := []) (TKx := []) rfl rfl ⟨Sub.int (by first | rfl | omega | (refine Int.sub_eq_zero.mp ?_; simp (disch := ((try unfold I64); omega)) only [wi64_id, td]; omega)), Sub.refl _, Sub.refl _, Sub.refl _, Sub.refl _, trivial⟩ (by simp [frD, FD.to, frSc, D.sc, scL_i64s, hscl]) rfl)
  · obtain rfl : i = l.length := by omega
    have B1 : ¬ ((l.length : Nat) : Int) < ((ivs l).length : Int) := by rw [hlen]; omega
    have B8 : (outs l n).sum = n := by omega
    rw [List.take_of_length_le (by omega)]
    repeat' first | with_reducible refine fzD_ite (fun q => ?_) (fun q => ?_) | ((try conv => whnf); first
      | refine bs_f (decide_eq_false B1) ?_
      | refine bs_t (decide_eq_true B8) ?_
      | refine bs_d (fun q => ?_) (fun q => ?_)
      | refine bs_n ?_
      | refine bs_i (fun q => ?_) (fun q => ?_)
      | refine ck (by first | rfl | simp) rfl (head) ?_
      | refine cq (head) ?_
      | refine eqk rfl ?_
      | refine ffin _ rfl rfl hS (Sub.refl _) rfl ⟨?_, rfl, rfl⟩)
    all_goals rfl
end Go.KL.Ytgdidchpignbpaa
