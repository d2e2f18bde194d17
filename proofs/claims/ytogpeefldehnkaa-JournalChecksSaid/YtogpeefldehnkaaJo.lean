/- the document's Reverse; JournalChecks -/
import Derived.Test.YtogpeefldehnkaaJg
set_option linter.unusedVariables false
set_option linter.unusedSimpArgs false
set_option linter.unusedSectionVars false
set_option maxRecDepth 4000
namespace Go.KL.Ytogpeefldehnkaa.J
open Go Go.KL Go.RowKit Go.Proofs Go.KL.Ytogpeefldehnkaa

theorem c31 : cFun E0.P 31 = some ⟨52, [(4, some (4, true)), (5, none)], .seq (.rg [⟨some 2, none, .box (.t 0) 39⟩, ⟨some 4, none, .alloc [.int .i64 0, .int .u8 0, .int .u64 0, .nilsl] 39⟩, ⟨some 5, none, .mv (.k (.int .i64 0))⟩]) (.seq (.rg [⟨some 10, none, .ld 4 true (.t 2)⟩, ⟨some 11, none, .call 32 [.t 10]⟩, ⟨some 6, none, .mv (.t 11)⟩]) (.seq (.seq (.rg [⟨some 12, none, .mv (.t 6)⟩, ⟨some 13, none, .bin .neq .leaf (.t 12) (.k (.int .i64 0))⟩]) (.cond (.t 13) (.seq (.rg [⟨some 14, none, .build [.int .i64 0, .int .u8 0, .int .u64 0, .nilsl] []⟩, ⟨some 15, none, .mv (.t 6)⟩, ⟨none, none, .st 4 (.t 4) (.t 14)⟩, ⟨some 5, none, .mv (.t 15)⟩]) .ret) .skip)) (.seq (.seq (.rg [⟨some 16, none, .mv (.t 1)⟩, ⟨some 17, none, .bin .lss .leaf (.t 16) (.k (.int .i64 1))⟩, ⟨some 18, none, .mv (.t 17)⟩, ⟨some 19, some (18, false), .mv (.t 1)⟩, ⟨some 20, some (18, false), .bin .gtr .leaf (.t 19) (.k (.int .i64 3652059))⟩, ⟨some 21, none, .pick (.t 18) (.k (.bool true)) (.t 20)⟩]) (.cond (.t 21) (.seq (.rg [⟨some 22, none, .build [.int .i64 0, .int .u8 0, .int .u64 0, .nilsl] []⟩, ⟨none, none, .st 4 (.t 4) (.t 22)⟩, ⟨some 5, none, .mv (.k (.int .i64 2))⟩]) .ret) .skip)) (.seq (.rg [⟨some 23, none, .mv (.t 1)⟩, ⟨some 24, none, .fa 1 (.t 2)⟩, ⟨some 25, none, .ld 1 false (.t 24)⟩, ⟨some 26, none, .fa 2 (.t 2)⟩, ⟨some 27, none, .ld 1 false (.t 26)⟩, ⟨some 28, none, .build [.int .i64 0, .int .u8 0, .int .u64 0, .nilsl] [(0, 1, .t 23), (1, 1, .t 25), (2, 1, .t 27)]⟩, ⟨some 7, none, .alloc [.int .i64 0, .int .u8 0, .int .u64 0, .nilsl] 39⟩, ⟨none, none, .st 4 (.t 7) (.t 28)⟩]) (.seq (.seq (.rg [⟨some 8, none, .mv (.k (.int .i64 0))⟩]) (.block 0 (.loop (.seq (.seq (.rg [⟨some 29, none, .mv (.t 8)⟩, ⟨some 30, none, .fa 3 (.t 2)⟩, ⟨some 31, none, .ld 1 false (.t 30)⟩, ⟨some 32, none, .len 1 (.t 31)⟩, ⟨some 33, none, .bin .lss .leaf (.t 29) (.t 32)⟩]) (.cond (.t 33) .skip (.exit 0))) (.seq (.block 1 (.seq (.rg [⟨some 36, none, .fa 3 (.t 2)⟩, ⟨some 37, none, .ld 1 false (.t 36)⟩, ⟨some 38, none, .mv (.t 8)⟩, ⟨some 39, none, .ia 4 (.t 37) (.t 38)⟩, ⟨some 40, none, .ld 4 true (.t 39)⟩, ⟨some 9, none, .alloc [.int .i64 0, .int .u64 0, .int .u64 0, .int .i64 0] 34⟩, ⟨none, none, .st 4 (.t 9) (.t 40)⟩]) (.seq (.rg [⟨some 41, none, .fa 3 (.t 9)⟩, ⟨some 42, none, .ld 1 false (.t 41)⟩, ⟨some 43, none, .un .neg (.t 42)⟩, ⟨some 44, none, .fa 3 (.t 9)⟩, ⟨none, none, .st 1 (.t 44) (.t 43)⟩]) (.rg [⟨some 45, none, .fa 3 (.t 7)⟩, ⟨some 46, none, .ld 1 false (.t 45)⟩, ⟨some 47, none, .ld 4 true (.t 9)⟩, ⟨some 48, none, .buildS 1 4 [.int .i64 0, .int .u64 0, .int .u64 0, .int .i64 0] [(0, .t 47)] 34⟩, ⟨some 49, none, .app 22 34 4 32 [.int .i64 0, .int .u64 0, .int .u64 0, .int .i64 0] (.t 46) (.t 48)⟩, ⟨some 50, none, .fa 3 (.t 7)⟩, ⟨none, none, .st 1 (.t 50) (.t 49)⟩])))) (.rg [⟨some 34, none, .mv (.t 8)⟩, ⟨some 35, none, .bin .add .leaf (.t 34) (.k (.int .i64 1))⟩, ⟨some 8, none, .mv (.t 35)⟩])))))) (.seq (.rg [⟨some 51, none, .ld 4 true (.t 7)⟩, ⟨none, none, .st 4 (.t 4) (.t 51)⟩, ⟨some 5, none, .mv (.k (.int .i64 0))⟩]) .ret))))))⟩ := by kernel_rfl
theorem c8 : cFun E0.P 8 = some ⟨115, [(2, none)], .seq (.rg [⟨some 1, none, .box (.t 0) 67⟩, ⟨some 2, none, .mv (.k (.bool false))⟩]) (.seq (.rd [(⟨some 17, none, .fa 0 (.t 1)⟩, none), (⟨some 18, none, .ld 4 true (.t 17)⟩, none), (⟨some 19, none, .fa 4 (.t 1)⟩, none), (⟨some 20, none, .ld 1 false (.t 19)⟩, none), (⟨some 21, none, .fa 6 (.t 1)⟩, none), (⟨some 22, none, .ld 1 false (.t 21)⟩, none), (⟨some 3, none, .alloc [.int .i64 0, .int .u8 0, .int .u64 0, .nilsl] 39⟩, some [⟨some 18, none, .ld 4 true (.t 17)⟩, ⟨some 20, none, .ld 1 false (.t 19)⟩, ⟨some 22, none, .ld 1 false (.t 21)⟩]), (⟨none, none, .st 4 (.t 3) (.t 18)⟩, some [⟨some 20, none, .ld 1 false (.t 19)⟩, ⟨some 22, none, .ld 1 false (.t 21)⟩]), (⟨some 4, none, .mv (.t 20)⟩, none), (⟨some 5, none, .mv (.t 22)⟩, none)]) (.seq (.seq (.rg [⟨some 23, none, .fa 3 (.t 3)⟩, ⟨some 24, none, .ld 1 false (.t 23)⟩, ⟨some 25, none, .len 1 (.t 24)⟩, ⟨some 26, none, .bin .gtr .leaf (.t 25) (.k (.int .i64 100))⟩, ⟨some 27, none, .mv (.t 26)⟩, ⟨some 28, some (27, false), .mv (.t 4)⟩, ⟨some 29, some (27, false), .len 1 (.t 28)⟩, ⟨some 30, some (27, false), .bin .gtr .leaf (.t 29) (.k (.int .i64 10))⟩, ⟨some 31, none, .pick (.t 27) (.k (.bool true)) (.t 30)⟩]) (.cond (.t 31) (.seq (.rg [⟨some 32, none, .call 10 []⟩, ⟨some 2, none, .mv (.t 32)⟩]) .ret) .skip)) (.seq (.rg [⟨some 33, none, .mv (.t 4)⟩, ⟨some 34, none, .call 16 [.t 33]⟩, ⟨some 6, none, .mv (.t 34)⟩]) (.seq (.seq (.rg [⟨some 35, none, .fa 5 (.t 1)⟩, ⟨some 36, none, .ld 1 false (.t 35)⟩, ⟨some 37, none, .mv (.t 36)⟩, ⟨some 38, some (37, true), .mv (.t 4)⟩, ⟨some 39, some (37, true), .len 1 (.t 38)⟩, ⟨some 40, some (37, true), .bin .gtr .leaf (.t 39) (.k (.int .i64 0))⟩, ⟨some 41, none, .pick (.t 37) (.t 40) (.k (.bool false))⟩]) (.cond (.t 41) (.rg [⟨some 42, none, .mv (.t 6)⟩, ⟨some 43, none, .mv (.t 4)⟩, ⟨some 44, none, .ia 5 (.t 43) (.k (.int .i64 0))⟩, ⟨some 45, none, .fa 0 (.t 44)⟩, ⟨some 46, none, .ld 1 false (.t 45)⟩, ⟨some 47, none, .call 29 [.t 42, .t 46]⟩]) .skip)) (.seq (.rg [⟨some 49, none, .ld 4 true (.t 3)⟩, ⟨some 50, none, .call 23 [.t 49]⟩, ⟨some 48, none, .mv (.t 50)⟩, ⟨some 51, none, .ext 0 (.t 48)⟩, ⟨some 52, none, .ext 1 (.t 48)⟩, ⟨some 53, none, .ext 2 (.t 48)⟩, ⟨some 7, none, .mv (.t 51)⟩, ⟨some 8, none, .mv (.t 52)⟩, ⟨some 9, none, .mv (.t 53)⟩]) (.seq (.rg [⟨some 55, none, .ld 4 true (.t 3)⟩, ⟨some 56, none, .call 30 [.t 55]⟩, ⟨some 54, none, .mv (.t 56)⟩, ⟨some 57, none, .ext 0 (.t 54)⟩, ⟨some 58, none, .ext 1 (.t 54)⟩, ⟨some 59, none, .ext 2 (.t 54)⟩, ⟨some 10, none, .mv (.t 57)⟩, ⟨some 11, none, .mv (.t 58)⟩, ⟨some 12, none, .mv (.t 59)⟩]) (.seq (.rg [⟨some 61, none, .ld 4 true (.t 3)⟩, ⟨some 62, none, .mv (.t 5)⟩, ⟨some 63, none, .call 22 [.t 61, .t 62]⟩, ⟨some 60, none, .mv (.t 63)⟩, ⟨some 64, none, .ext 0 (.t 60)⟩, ⟨some 65, none, .ext 1 (.t 60)⟩, ⟨some 13, none, .alloc [.int .i64 0, .int .u8 0, .int .u64 0, .nilsl] 39⟩, ⟨none, none, .st 4 (.t 13) (.t 64)⟩, ⟨some 14, none, .mv (.t 65)⟩]) (.seq (.rg [⟨some 67, none, .ld 4 true (.t 3)⟩, ⟨some 68, none, .mv (.t 5)⟩, ⟨some 69, none, .call 31 [.t 67, .t 68]⟩, ⟨some 66, none, .mv (.t 69)⟩, ⟨some 70, none, .ext 0 (.t 66)⟩, ⟨some 71, none, .ext 1 (.t 66)⟩, ⟨some 15, none, .alloc [.int .i64 0, .int .u8 0, .int .u64 0, .nilsl] 39⟩, ⟨none, none, .st 4 (.t 15) (.t 70)⟩, ⟨some 16, none, .mv (.t 71)⟩]) (.seq (.rd [(⟨some 72, none, .ld 4 true (.t 3)⟩, none), (⟨some 73, none, .call 17 [.t 72]⟩, none), (⟨some 74, none, .ld 4 true (.t 3)⟩, none), (⟨some 75, none, .call 32 [.t 74]⟩, some []), (⟨some 76, none, .bin .eql .leaf (.t 73) (.t 75)⟩, none), (⟨some 77, none, .mv (.t 76)⟩, none), (⟨some 78, some (77, true), .mv (.t 6)⟩, none), (⟨some 79, some (77, true), .ld 4 true (.t 3)⟩, none), (⟨some 80, some (77, true), .call 18 [.t 78, .t 79]⟩, none), (⟨some 81, some (77, true), .mv (.t 6)⟩, none), (⟨some 82, some (77, true), .call 34 [.t 81]⟩, none), (⟨some 83, some (77, true), .ld 4 true (.t 3)⟩, none), (⟨some 84, some (77, true), .call 33 [.t 82, .t 83]⟩, some []), (⟨some 85, some (77, true), .bin .eql .leaf (.t 80) (.t 84)⟩, none), (⟨some 86, none, .pick (.t 77) (.t 85) (.k (.bool false))⟩, none), (⟨some 87, none, .mv (.t 86)⟩, none), (⟨some 88, some (87, true), .mv (.t 7)⟩, none), (⟨some 89, some (87, true), .mv (.t 10)⟩, none), (⟨some 90, some (87, true), .bin .eql .leaf (.t 88) (.t 89)⟩, none), (⟨some 91, none, .pick (.t 87) (.t 90) (.k (.bool false))⟩, none), (⟨some 92, none, .mv (.t 91)⟩, none), (⟨some 93, some (92, true), .mv (.t 8)⟩, none), (⟨some 94, some (92, true), .mv (.t 11)⟩, none), (⟨some 95, some (92, true), .bin .eql .leaf (.t 93) (.t 94)⟩, none), (⟨some 96, none, .pick (.t 92) (.t 95) (.k (.bool false))⟩, none), (⟨some 97, none, .mv (.t 96)⟩, none), (⟨some 98, some (97, true), .mv (.t 9)⟩, none), (⟨some 99, some (97, true), .mv (.t 12)⟩, none), (⟨some 100, some (97, true), .bin .eql .leaf (.t 98) (.t 99)⟩, none), (⟨some 101, none, .pick (.t 97) (.t 100) (.k (.bool false))⟩, none), (⟨some 102, none, .mv (.t 101)⟩, none), (⟨some 103, some (102, true), .ld 4 true (.t 13)⟩, none), (⟨some 104, some (102, true), .ld 4 true (.t 15)⟩, none), (⟨some 105, some (102, true), .call 24 [.t 103, .t 104]⟩, some []), (⟨some 106, none, .pick (.t 102) (.t 105) (.k (.bool false))⟩, none), (⟨some 107, none, .mv (.t 106)⟩, none), (⟨some 108, some (107, true), .mv (.t 14)⟩, none), (⟨some 109, some (107, true), .mv (.t 16)⟩, none), (⟨some 110, some (107, true), .bin .eql .leaf (.t 108) (.t 109)⟩, none), (⟨some 111, none, .pick (.t 107) (.t 110) (.k (.bool false))⟩, none), (⟨some 112, none, .mv (.t 111)⟩, none), (⟨some 113, some (112, true), .call 10 []⟩, some []), (⟨some 114, none, .pick (.t 112) (.t 113) (.k (.bool false))⟩, none), (⟨some 2, none, .mv (.t 114)⟩, none)]) .ret)))))))))⟩ := by kernel_rfl

def outC (L : List Ln) (m : Nat) : Nat → D
  | 0 => .nilsl
  | i + 1 => .gsl (lns ((L.take (i + 1)).map neg)) m
def outT (L : List Ln) (e : TypeId) : Nat → Tks
  | 0 => []
  | i + 1 => [((lns ((L.take (i + 1)).map neg)).length, e, 4)]
theorem outs_len (L : List Ln) (i : Nat) : (lns ((L.take i).map neg)).length ≤ i := by rw [lns_len, List.length_map, List.length_take]; omega
theorem out_step {L : List Ln} {i : Nat} (hi : i < L.length) : lns ((L.take i).map neg) ++ [(neg L[i]!).cs] = lns ((L.take (i + 1)).map neg) := by rw [take_snA hi]; simp [lns]
set_option maxHeartbeats 1000000 in
theorem rReverse (e : Ent) (hR : e.R) (day : Int) : Pure 31 [e.d, .int .i64 day] (revS e day) := by
  intro S tk
  have hc := rCheck e hR
  by_cases h0 : e.chk = 0
  rotate_left
  · rw [revS, revE, revN, if_neg h0, if_neg (fun h => h0 h.1)]
    refine ACalls.fgo c31 rfl fun hS => ?_
    repeat' first | with_reducible refine fzD_ite (fun q => ?_) (fun q => ?_) | ((try conv => whnf); first
      | refine bs_f (decide_eq_false h0) ?_
      | refine bs_d (fun q => ?_) (fun q => ?_)
      | refine bs_n ?_
      | refine bs_i (fun q => ?_) (fun q => ?_)
      | refine ck (by first | rfl | simp) rfl (hc) ?_
      | refine cq (hc) ?_
      | refine ffin (.tup [zeroE.d, .int .i64 e.chk]) rfl rfl hS (zeroE_sub _) rfl ⟨?_, rfl, rfl⟩
      | refine eqk rfl ?_
      | refine ffin _ rfl rfl hS (Sub.refl _) rfl ⟨?_, rfl, rfl⟩)
    all_goals rfl
  obtain ⟨h1, h2, h3⟩ := Ent.chk_0 h0
  unfold Ent.hd at h1
  rw [h0] at hc
  by_cases hd : 1 ≤ day ∧ day ≤ 3652059
  rotate_left
  · rw [revS, revE, revN, if_pos h0, if_neg hd, if_neg (fun h => hd h.2)]
    refine ACalls.fgo c31 rfl fun hS => ?_
    repeat' first | with_reducible refine fzD_ite (fun q => ?_) (fun q => ?_) | ((try conv => whnf); first
      | refine bs_d (fun q => ?_) (fun q => ?_)
      | refine bs_n ?_
      | refine bs_i (fun q => ?_) (fun q => ?_)
      | refine ck (by first | rfl | simp) rfl (hc) ?_
      | refine cq (hc) ?_
      | refine ffin (.tup [zeroE.d, .int .i64 2]) rfl rfl hS (zeroE_sub _) rfl ⟨?_, rfl, rfl⟩
      | refine eqk rfl ?_
      | refine ffin _ rfl rfl hS (Sub.refl _) rfl ⟨?_, rfl, rfl⟩)
    all_goals first | rfl | (exfalso; omega)
  rw [revS, rev_eq h0 hd, revN, if_pos h0, if_pos hd]
  have hlen := lns_len e.L
  refine ACalls.fgo c31 rfl fun hS => ?_
  repeat' first | with_reducible refine fzD_ite (fun q => ?_) (fun q => ?_) | ((try conv => whnf); first
    | refine bs_f (decide_eq_false (by omega)) ?_
    | refine bs_d (fun q => ?_) (fun q => ?_)
    | refine bs_n ?_
    | refine bs_i (fun q => ?_) (fun q => ?_)
    | refine ck (by first | rfl | simp) rfl (hc) ?_
    | refine cq (hc) ?_
    | refine eqk rfl ?_
    | refine ffin _ rfl rfl hS (Sub.refl _) rfl ⟨?_, rfl, rfl⟩)
  conv => whnf
  refine floop (α := Nat) rfl rfl hS (fun i => i ≤ e.L.length) (fun i => e.L.length - i) (fun i => [(8, .d (.int .i64 i)), (2, .lp 0 0), (7, .lp 2 0), (4, .lp 1 0), (5, .d (.int .i64 0))])
    (fun i => [.arr [.int .i64 e.day, .int .u8 e.kind, .int .u64 e.src, .sl (lns e.L)], .arr [.int .i64 0, .int .u8 0, .int .u64 0, .nilsl], .arr [.int .i64 day, .int .u8 e.kind, .int .u64 e.src, outC e.L (tk.length + 0) i]]) (fun i => outT e.L 34 i) 0 (Nat.zero_le _) (fstep_sub ⟨Sub.refl _, Sub.refl _, Sub.refl _, Sub.refl _, Sub.refl _, trivial⟩) ?_
  intro i hi
  by_cases hlt : i < e.L.length
  · have hmy := h2 _ (mem_at hlt)
    have hw : IntKind.wrap .i64 (0 - (e.L[i]!).amt) = -(e.L[i]!).amt := by rw [Int.zero_sub]; exact wi64_id (by unfold I64; unfold Ln.may at hmy; omega)
    have hst := out_step hlt
    have hol := outs_len e.L i
    have hrow : [D.int .i64 (e.L[i]!).acc, .int .u64 (e.L[i]!).cus, .int .u64 (e.L[i]!).con, .int .i64 (IntKind.wrap .i64 (0 - (e.L[i]!).amt))] = (neg (e.L[i]!)).cs := by rw [hw]; rfl
    cases i with
    | zero =>
      have hst0 : [[D.int .i64 (e.L[0]!).acc, .int .u64 (e.L[0]!).cus, .int .u64 (e.L[0]!).con, .int .i64 (IntKind.wrap .i64 ((0 : Int) - (e.L[0]!).amt))]] = lns ((e.L.take (0 + 1)).map neg) := by rw [← hst, hrow]; rfl
      repeat' first | with_reducible refine fzD_ite (fun q => ?_) (fun q => ?_) | ((try conv => whnf); first
        | refine bs_t (decide_eq_true (show ((0 : Nat) : Int) < (lns e.L).length by omega)) ?_
        | refine bs_d (fun q => ?_) (fun q => ?_)
        | refine bs_n ?_
        | refine bs_i (fun q => ?_) (fun q => ?_)
        | refine pK_i (iaD_ln (i := 0) rfl hlt) ?_
        | refine gk_app0 (src := lns ((e.L.take (0 + 1)).map neg)) rfl rfl (.inl rfl) (congrArg some hst0) (ln4 _) (by have hz := outs_len e.L (0 + 1); generalize (lns ((e.L.take (0 + 1)).map neg)).length = z at hz ⊢; simp [maxLen]; omega) ?_
        | refine eqk rfl ?_
        | refine ffin _ rfl rfl hS (Sub.refl _) rfl ⟨?_, rfl, rfl⟩)
      conv => whnf
      exact fnext (α := Nat) (0 + 1) (by omega) (by omega) (fstep_drop (J' := [_, _, _]) (Jx := [_]) (TK' := [_]) (TKx := []) rfl rfl ⟨Sub.int (by first | rfl | omega | (refine Int.sub_eq_zero.mp ?_; simp (disch := ((try unfold I64); omega)) only [wi64_id, td]; omega)), Sub.refl _, Sub.refl _, Sub.refl _, Sub.refl _, trivial⟩ (by simp [frD, FD.to, frSc, D.sc]) (by simp [oScL, oSc, scL, D.sc, outC, scLL_lns]))
    | succ i =>
      repeat' first | with_reducible refine fzD_ite (fun q => ?_) (fun q => ?_) | ((try conv => whnf); first
        | refine bs_t (decide_eq_true (show ((i + 1 : Nat) : Int) < (lns e.L).length by omega)) ?_
        | refine bs_d (fun q => ?_) (fun q => ?_)
        | refine bs_n ?_
        | refine bs_i (fun q => ?_) (fun q => ?_)
        | refine pK_i (iaD_ln (i := i + 1) rfl hlt) ?_
        | (refine gk_app (t := 0) (src := [(neg (e.L[i + 1]!)).cs]) rfl rfl (by rfl) (congrArg (fun r => some [r]) hrow) (by rfl) (by simp [Ln.cs]) (by generalize (lns ((e.L.take (i + 1)).map neg)).length = z at hol ⊢; simp [maxLen]; omega) ?_; rw [hst])
        | refine eqk rfl ?_
        | refine ffin _ rfl rfl hS (Sub.refl _) rfl ⟨?_, rfl, rfl⟩)
      conv => whnf
      exact fnext (α := Nat) (i + 1 + 1) (by omega) (by omega) (fstep_drop (J' := [_, _, _]) (Jx := [_]) (TK' := [_]) (TKx := []) rfl rfl ⟨Sub.int (by first | rfl | omega | (refine Int.sub_eq_zero.mp ?_; simp (disch := ((try unfold I64); omega)) only [wi64_id, td]; omega)), Sub.refl _, Sub.refl _, Sub.refl _, Sub.refl _, trivial⟩ (by simp [frD, FD.to, frSc, D.sc]) (by simp [oScL, oSc, scL, D.sc, outC, scLL_lns]))
  · obtain rfl : i = e.L.length := by omega
    obtain ⟨m, hm⟩ : ∃ m, e.L.length = m + 1 := ⟨e.L.length - 1, by omega⟩
    have hall : (e.L.take (m + 1)).map neg = e.L.map neg := by rw [← hm, List.take_length]
    have hoc : outC e.L (tk.length + 0) e.L.length = .gsl (lns (e.L.map neg)) (tk.length + 0) := by rw [hm, outC, hall]
    have hot : outT e.L 34 e.L.length = [((lns (e.L.map neg)).length, 34, 4)] := by rw [hm, outT, hall]
    rw [hoc, hot]
    repeat' first | with_reducible refine fzD_ite (fun q => ?_) (fun q => ?_) | ((try conv => whnf); first
      | refine bs_f (decide_eq_false (show ¬ (e.L.length : Int) < (lns e.L).length by omega)) ?_
      | refine bs_d (fun q => ?_) (fun q => ?_)
      | refine bs_n ?_
      | refine bs_i (fun q => ?_) (fun q => ?_)
      | refine ffin (.tup [.agg [.int .i64 day, .int .u8 e.kind, .int .u64 e.src, .sl (lns (e.L.map neg))], .int .i64 0]) rfl rfl hS (Sub.tup (.cons (Sub.agg (.cons (Sub.refl _) (.cons (Sub.refl _) (.cons (Sub.refl _) (.cons (Sub.rd rfl) .nil))))) (.cons (Sub.refl _) .nil))) (by simp [D.sc, scL, scLL_lns]) ⟨?_, rfl, rfl⟩
      | refine eqk rfl ?_
      | refine ffin _ rfl rfl hS (Sub.refl _) rfl ⟨?_, rfl, rfl⟩)
    all_goals rfl
theorem tot_shape (e : Ent) : ∃ a b f, totS e = .tup [.int .i64 a, .int .i64 b, .int .i64 f] := by
  unfold totS
  split
  · split <;> exact ⟨_, _, _, rfl⟩
  · exact ⟨_, _, _, rfl⟩
theorem all_cN {ql : AcL} {o : O} {S : List O} {tk : Tks} {cid mid : Nat} (hok : OkQ ql) (hch : Ch (look ql) o) (hc : S[cid]? = some (.arr [.map mid])) (hm : S[mid]? = some o) (hl : ql.length < 1000000) :
    ACalls E0 34 [.po cid 0] S tk (fun r S' tk' => r = .sl (acsL ql) ∧ S' = S ∧ tk' = tk) := by
  have h := all_c (tk := tk) hch hc hm hok.keys (by rw [List.length_map]; exact hl)
  rw [hok.all] at h; exact h
theorem revL_len (e : Ent) (day : Int) (h : e.L.length < 1000000) : (revE e day).L.length < 4611686018427387904 := by
  unfold revE; split
  · simp only [List.length_map]; omega
  · simp [zeroE]
set_option maxHeartbeats 2000000 in
theorem checksF {e : Ent} (hR : e.R) {more : AcL} {day : Int} (B1 : ¬ ((lns e.L).length : Int) > 100) (B2 : ¬ ((acsL more).length : Int) > 10) {q0 : AcL}
    (hst : ∀ {n : Nat} {S : List O} {tk : Tks}, S.length = n → ACalls E0 16 [.sl (acsL more)] S tk (fun r S' tk' => ∃ o, (r = .po (n + 1) 0 ∧ Ch (look q0) o) ∧ S' = S ++ [o, .arr [.map n]] ∧ tk' = tk))
    {c a b f k : Int} {r1 : Ent} (hc : Pure 17 [e.d] (.int .i64 c)) (hc2 : Pure 32 [e.d] (.int .i64 c)) (ht : Pure 23 [e.d] (.tup [.int .i64 a, .int .i64 b, .int .i64 f])) (ht2 : Pure 30 [e.d] (.tup [.int .i64 a, .int .i64 b, .int .i64 f]))
    (hr : Pure 22 [e.d, .int .i64 day] (.tup [r1.d, .int .i64 k])) (hr2 : Pure 31 [e.d, .int .i64 day] (.tup [r1.d, .int .i64 k])) (hsm : Pure 24 [r1.d, r1.d] (.bool true))
    (hok : OkQ q0) (hql : q0.length < 1000000) {n : Int} (hn : onN q0 e = n) (hon2 : Pure 33 [.sl (acsL q0), e.d] (.int .i64 n)) : Pure 8 [.agg [.int .i64 e.day, .int .u8 e.kind, .int .u64 e.src, .sl (lns e.L), .sl (acsL more), .bool false, .int .i64 day]] (.bool true) := by
  intro S tk
  refine ACalls.fgo c8 rfl fun hS => ?_
  repeat' first | with_reducible refine fzD_ite (fun q => ?_) (fun q => ?_) | ((try conv => whnf); first
    | refine bs_f (decide_eq_false B1) ?_
    | refine bs_f (decide_eq_false B2) ?_
    | refine bs_t (decide_eq_true rfl) ?_
    | refine bs_d (fun q => ?_) (fun q => ?_)
    | refine bs_n ?_
    | refine bs_i (fun q => ?_) (fun q => ?_)
    | (refine ckNE (G := fun r o => r = .po (S.length + 2 + 1) 0 ∧ Ch (look q0) o) (Jn := fun o => [o, .arr [.map (S.length + 2)]]) (ds' := [.sl (acsL more)]) rfl rfl (hst (by simp)) (.cons (Sub.refl _) .nil) ?_; rintro r o ⟨rfl, hch⟩)
    | refine ck (by first | rfl | simp) rfl (ht) ?_
    | refine cq (ht) ?_
    | refine ck (by first | rfl | simp) rfl (ht2) ?_
    | refine cq (ht2) ?_
    | refine ck (by first | rfl | simp) rfl (hr) ?_
    | refine cq (hr) ?_
    | refine ck (by first | rfl | simp) rfl (hr2) ?_
    | refine cq (hr2) ?_
    | refine ck (by first | rfl | simp) rfl (hc) ?_
    | refine cq (hc) ?_
    | refine ck (by first | rfl | simp) rfl (hc2) ?_
    | refine cq (hc2) ?_
    | refine cqA (on_cN (cid := S.length + 3) (mid := S.length + 2) hn hch (at_own (k := 3) rfl rfl) (at_own (k := 2) rfl rfl) hok hql hR) ?_
    | refine cqA (all_cN (cid := S.length + 3) (mid := S.length + 2) hok hch (at_own (k := 3) rfl rfl) (at_own (k := 2) rfl rfl) hql) ?_
    | refine ck (by first | rfl | simp) rfl (hon2) ?_
    | refine cq (hon2) ?_
    | refine ck (by first | rfl | simp) rfl (hsm) ?_
    | refine cq (hsm) ?_
    | refine ck (by first | rfl | simp) rfl (head) ?_
    | refine cq (head) ?_
    | refine eqk rfl ?_
    | refine ffin _ rfl rfl hS (Sub.refl _) rfl ⟨?_, rfl, rfl⟩)
  all_goals rfl
set_option maxHeartbeats 2000000 in
theorem checksT {e : Ent} (hR : e.R) {more : AcL} {day : Int} (B1 : ¬ ((lns e.L).length : Int) > 100) (B2 : ¬ ((acsL more).length : Int) > 10) {q0 : AcL}
    (hst : ∀ {n : Nat} {S : List O} {tk : Tks}, S.length = n → ACalls E0 16 [.sl (acsL more)] S tk (fun r S' tk' => ∃ o, (r = .po (n + 1) 0 ∧ Ch (look q0) o) ∧ S' = S ++ [o, .arr [.map n]] ∧ tk' = tk))
    {c a b f k : Int} {r1 : Ent} (hc : Pure 17 [e.d] (.int .i64 c)) (hc2 : Pure 32 [e.d] (.int .i64 c)) (ht : Pure 23 [e.d] (.tup [.int .i64 a, .int .i64 b, .int .i64 f])) (ht2 : Pure 30 [e.d] (.tup [.int .i64 a, .int .i64 b, .int .i64 f]))
    (hr : Pure 22 [e.d, .int .i64 day] (.tup [r1.d, .int .i64 k])) (hr2 : Pure 31 [e.d, .int .i64 day] (.tup [r1.d, .int .i64 k])) (hsm : Pure 24 [r1.d, r1.d] (.bool true))
    (B3 : ¬ 0 < ((acsL more).length : Int)) (hok : OkQ q0) (hql : q0.length < 1000000) {n : Int} (hn : onN q0 e = n) (hon2 : Pure 33 [.sl (acsL q0), e.d] (.int .i64 n)) : Pure 8 [.agg [.int .i64 e.day, .int .u8 e.kind, .int .u64 e.src, .sl (lns e.L), .sl (acsL more), .bool true, .int .i64 day]] (.bool true) := by
  intro S tk
  refine ACalls.fgo c8 rfl fun hS => ?_
  repeat' first | with_reducible refine fzD_ite (fun q => ?_) (fun q => ?_) | ((try conv => whnf); first
    | refine bs_f (decide_eq_false B3) ?_
    | refine bs_f (decide_eq_false B1) ?_
    | refine bs_f (decide_eq_false B2) ?_
    | refine bs_t (decide_eq_true rfl) ?_
    | refine bs_d (fun q => ?_) (fun q => ?_)
    | refine bs_n ?_
    | refine bs_i (fun q => ?_) (fun q => ?_)
    | (refine ckNE (G := fun r o => r = .po (S.length + 2 + 1) 0 ∧ Ch (look q0) o) (Jn := fun o => [o, .arr [.map (S.length + 2)]]) (ds' := [.sl (acsL more)]) rfl rfl (hst (by simp)) (.cons (Sub.refl _) .nil) ?_; rintro r o ⟨rfl, hch⟩)
    | refine ck (by first | rfl | simp) rfl (ht) ?_
    | refine cq (ht) ?_
    | refine ck (by first | rfl | simp) rfl (ht2) ?_
    | refine cq (ht2) ?_
    | refine ck (by first | rfl | simp) rfl (hr) ?_
    | refine cq (hr) ?_
    | refine ck (by first | rfl | simp) rfl (hr2) ?_
    | refine cq (hr2) ?_
    | refine ck (by first | rfl | simp) rfl (hc) ?_
    | refine cq (hc) ?_
    | refine ck (by first | rfl | simp) rfl (hc2) ?_
    | refine cq (hc2) ?_
    | refine cqA (on_cN (cid := S.length + 3) (mid := S.length + 2) hn hch (at_own (k := 3) rfl rfl) (at_own (k := 2) rfl rfl) hok hql hR) ?_
    | refine cqA (all_cN (cid := S.length + 3) (mid := S.length + 2) hok hch (at_own (k := 3) rfl rfl) (at_own (k := 2) rfl rfl) hql) ?_
    | refine ck (by first | rfl | simp) rfl (hon2) ?_
    | refine cq (hon2) ?_
    | refine ck (by first | rfl | simp) rfl (hsm) ?_
    | refine cq (hsm) ?_
    | refine ck (by first | rfl | simp) rfl (head) ?_
    | refine cq (head) ?_
    | refine eqk rfl ?_
    | refine ffin _ rfl rfl hS (Sub.refl _) rfl ⟨?_, rfl, rfl⟩)
  all_goals rfl
theorem fops_go {E : Env} {n0 m0 : Nat} {ops : List CI} {fr : Fr} {S J : List O} {T TK : Tks} {K : FK} (h : ∀ K' : FK, (∀ fr S J T TK, K fr S J T TK → K' fr S J T TK) → fops E n0 m0 ops fr S J T TK K') : fops E n0 m0 ops fr S J T TK K := h K fun _ _ _ _ _ h => h
set_option maxHeartbeats 2000000 in
theorem checksS {e : Ent} (hR : e.R) {more : AcL} {day : Int} (B1 : ¬ ((lns e.L).length : Int) > 100) (B2 : ¬ ((acsL more).length : Int) > 10) {q0 : AcL}
    (hst : ∀ {n : Nat} {S : List O} {tk : Tks}, S.length = n → ACalls E0 16 [.sl (acsL more)] S tk (fun r S' tk' => ∃ o, (r = .po (n + 1) 0 ∧ Ch (look q0) o) ∧ S' = S ++ [o, .arr [.map n]] ∧ tk' = tk))
    {c a b f k : Int} {r1 : Ent} (hc : Pure 17 [e.d] (.int .i64 c)) (hc2 : Pure 32 [e.d] (.int .i64 c)) (ht : Pure 23 [e.d] (.tup [.int .i64 a, .int .i64 b, .int .i64 f])) (ht2 : Pure 30 [e.d] (.tup [.int .i64 a, .int .i64 b, .int .i64 f]))
    (hr : Pure 22 [e.d, .int .i64 day] (.tup [r1.d, .int .i64 k])) (hr2 : Pure 31 [e.d, .int .i64 day] (.tup [r1.d, .int .i64 k])) (hsm : Pure 24 [r1.d, r1.d] (.bool true))
    (B3 : 0 < ((acsL more).length : Int)) {a0 : Go.KL.Ytogpeefldehnkaa.Ac} (ik : iaD 5 (.sl (acsL more)) (.int .i64 0) = some (.pe a0.cs 0)) {ql : AcL} (hok : OkQ ql) (hql : ql.length < 1000000) {n : Int} (hn : onN ql e = n) (hon2 : Pure 33 [.sl (acsL ql), e.d] (.int .i64 n))
    {z : Int} (hsh : ∀ {S : List O} {tk : Tks} {o : O} {cid mid : Nat}, Ch (look q0) o → S[cid]? = some (.arr [.map mid]) → S[mid]? = some o → ACalls E0 29 [.po cid 0, .int .i64 a0.code] S tk (fun r S' tk' => ∃ o', (r = .int .i64 z ∧ Ch (look ql) o') ∧ S' = S.set mid o' ∧ tk' = tk)) : Pure 8 [.agg [.int .i64 e.day, .int .u8 e.kind, .int .u64 e.src, .sl (lns e.L), .sl (acsL more), .bool true, .int .i64 day]] (.bool true) := by
  intro S tk
  refine ACalls.fgo c8 rfl fun hS => ?_
  repeat' first | with_reducible refine fzD_ite (fun q => ?_) (fun q => ?_) | ((try conv => whnf); first
    | refine bs_t (decide_eq_true B3) ?_
    | refine bs_f (decide_eq_false B1) ?_
    | refine bs_f (decide_eq_false B2) ?_
    | refine bs_t (decide_eq_true rfl) ?_
    | refine bs_d (fun q => ?_) (fun q => ?_)
    | refine bs_n ?_
    | refine bs_i (fun q => ?_) (fun q => ?_)
    | refine pK_i ik ?_
    | (refine ckNE (G := fun r o => r = .po (S.length + 2 + 1) 0 ∧ Ch (look q0) o) (Jn := fun o => [o, .arr [.map (S.length + 2)]]) (ds' := [.sl (acsL more)]) rfl rfl (hst (by simp)) (.cons (Sub.refl _) .nil) ?_; rintro r o ⟨rfl, hch⟩)
    | refine eqk rfl ?_
    | refine ffin _ rfl rfl hS (Sub.refl _) rfl ⟨?_, rfl, rfl⟩)
  refine fzD_go ?_
  show fops _ _ _ _ _ _ _ _ _ _
  refine fops_go fun K' hK' => ?_
  conv => whnf
  refine ckJE (k := 2) (ds' := [.po (S.length + 3) 0, .int .i64 a0.code]) rfl rfl (hsh (cid := S.length + 3) (mid := S.length + 2) hch (at_own (k := 3) rfl rfl) (at_own (k := 2) rfl rfl)) (SubL.refl _) ?_
  rintro r o2 ⟨rfl, ch3⟩
  conv => whnf
  refine hK' _ _ _ _ _ ?_
  repeat' first | with_reducible refine fzD_ite (fun q => ?_) (fun q => ?_) | ((try conv => whnf); first
    | refine bs_t (decide_eq_true rfl) ?_
    | refine bs_d (fun q => ?_) (fun q => ?_)
    | refine bs_n ?_
    | refine bs_i (fun q => ?_) (fun q => ?_)
    | refine ck (by first | rfl | simp) rfl (ht) ?_
    | refine cq (ht) ?_
    | refine ck (by first | rfl | simp) rfl (ht2) ?_
    | refine cq (ht2) ?_
    | refine ck (by first | rfl | simp) rfl (hr) ?_
    | refine cq (hr) ?_
    | refine ck (by first | rfl | simp) rfl (hr2) ?_
    | refine cq (hr2) ?_
    | refine ck (by first | rfl | simp) rfl (hc) ?_
    | refine cq (hc) ?_
    | refine ck (by first | rfl | simp) rfl (hc2) ?_
    | refine cq (hc2) ?_
    | refine cqA (on_cN (cid := S.length + 3) (mid := S.length + 2) hn ch3 (at_own (k := 3) rfl rfl) (at_own (k := 2) rfl rfl) hok hql hR) ?_
    | refine cqA (all_cN (cid := S.length + 3) (mid := S.length + 2) hok ch3 (at_own (k := 3) rfl rfl) (at_own (k := 2) rfl rfl) hql) ?_
    | refine ck (by first | rfl | simp) rfl (hon2) ?_
    | refine cq (hon2) ?_
    | refine ck (by first | rfl | simp) rfl (hsm) ?_
    | refine cq (hsm) ?_
    | refine ck (by first | rfl | simp) rfl (head) ?_
    | refine cq (head) ?_
    | refine eqk rfl ?_
    | refine ffin _ rfl rfl hS (Sub.refl _) rfl ⟨?_, rfl, rfl⟩)
  all_goals rfl
theorem journalChecks (e : Ent) (hR : e.R) (more : AcL) (sh : Bool) (day : Int) : Pure 8 [.agg [.int .i64 e.day, .int .u8 e.kind, .int .u64 e.src, .sl (lns e.L), .sl (acsL more), .bool sh, .int .i64 day]] (.bool true) := by
  have hlen := lns_len e.L
  have hlm := acsL_len more
  by_cases hbig : (e.L.length : Int) > 100 ∨ (more.length : Int) > 10
  · intro S tk
    refine ACalls.fgo c8 rfl fun hS => ?_
    repeat' first | with_reducible refine fzD_ite (fun q => ?_) (fun q => ?_) | ((try conv => whnf); first
      | refine bs_d (fun q => ?_) (fun q => ?_)
      | refine bs_n ?_
      | refine bs_i (fun q => ?_) (fun q => ?_)
      | refine ck (by first | rfl | simp) rfl (head) ?_
      | refine cq (head) ?_
      | refine eqk rfl ?_
      | refine ffin _ rfl rfl hS (Sub.refl _) rfl ⟨?_, rfl, rfl⟩)
    all_goals first | rfl | (exfalso; omega)
  have hc := Check e hR
  have hc2 := rCheck e hR
  have ht := Totals e hR
  have ht2 := rTotals e hR
  have hr := Reverse e hR day
  have hr2 := rReverse e hR day
  obtain ⟨a, b, f, hab⟩ := tot_shape e
  rw [hab] at ht ht2
  have hsm := Same (revE e day) (revE e day) (revL_len e day (by omega)) (revL_len e day (by omega))
  rw [Ent.eqB_self] at hsm
  obtain ⟨hok0, hql0⟩ := stdQ_ok more
  have hst := fun {n : Nat} {S : List O} {tk : Tks} (h : S.length = n) => std_at more (by omega) (tk := tk) h
  have B1 : ¬ ((lns e.L).length : Int) > 100 := by omega
  have B2 : ¬ ((acsL more).length : Int) > 10 := by omega
  have hql : (stdQ more).length < 1000000 := by omega
  by_cases B3 : 0 < ((acsL more).length : Int)
  · cases sh with
    | false => exact checksF hR B1 B2 hst hc hc2 ht ht2 hr hr2 hsm hok0 hql rfl (rOn _ hok0 hql e hR)
    | true =>
      obtain ⟨⟨hok, hqle⟩, hnx⟩ := shut_next (c := (more[0]!).code) hok0
      have hq2 : (if shutRE (stdQ more) (more[0]!).code = 0 then shR (stdQ more) (more[0]!).code else stdQ more).length < 1000000 := by rw [hqle]; omega
      have kL : ((stdQ more).map Go.KL.Ytogpeefldehnkaa.Ac.code).length < 1000000 := by rw [List.length_map]; omega
      refine checksS (z := shutE (look (stdQ more)) (undL (stdQ more) (more[0]!).code (stdQ more)) (more[0]!).code) hR B1 B2 hst hc hc2 ht ht2 hr hr2 hsm B3 (iaD_ac (l := more) (i := 0) rfl (by omega)) hok hq2 rfl (rOn _ hok hq2 e hR) ?_
      intro S tk o cid mid h1 h2 h3
      refine (shut_c h1 h2 h3 hok0.keys kL _ (hok0.und hql _)).mono ?_
      rintro r S' tk' ⟨o', ⟨rfl, h4⟩, rfl, rfl⟩
      exact ⟨o', ⟨rfl, hnx _ h4⟩, rfl, rfl⟩
  · cases sh with
    | false => exact checksF hR B1 B2 hst hc hc2 ht ht2 hr hr2 hsm hok0 hql rfl (rOn _ hok0 hql e hR)
    | true => exact checksT hR B1 B2 hst hc hc2 ht ht2 hr hr2 hsm B3 hok0 hql rfl (rOn _ hok0 hql e hR)
end Go.KL.Ytogpeefldehnkaa.J
